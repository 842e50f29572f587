/- Laws and contracts that the proof of GamesSerial uses, part 4. -/
import Derived.Test.YtbidboagaoifaaaProg
import Derived.Test.YtbidboagaoifaaaGamesSerialM1
import Derived.Test.YtbidboagaoifaaaGamesSerialM3
import Derived.Test.YtbidboagaoifaaaGamesSerialM2
import Derived.Maps.OwnOps
import Derived.Maps.Views
namespace Go.Proofs.Ytbidboagaoifaaa
open Go.RowKit

/- Contract: Players of package corrodyref07: how many players costs have, 0 where they are not valid. -/

set_option maxHeartbeats 800000 in
theorem rplayers_2 (ad : Addr) (cap : Nat) (xs : List Int) (x0 : Int) (w : World) (hl : xs.length = 2) (hx0 : xs[0]? = some x0) (c0 : w.cell? ad = some (.int .i64 x0)) (hc : ∀ i x, xs[i]? = some x → w.cell? (ad.add i) = some (.int .i64 x)) :
    Calls Try.prog 20 #[.slice (some ad) 2 cap] w fun e w' => e = .returned (.int .i64 (plr xs)) ∧ w = w' := by
  have HC := Lib.hid hc
  have HL := Lib.hid hl
  have HX0 := Lib.hid hx0
  clear hc hl hx0
  go_enter Try.func20, Try.ntmps20
  go_wp2
  refine wp_loop_rounds 5 ?_
  iterate 1 (rw [rounds_succ]; go_wp2)
  go_loop [17] (fun i => ∃ k : Nat, k ≤ 2 ∧ i = .int .i64 k ∧ (xs.take k).all inR = true) (fun i => 2 - (intOf i).toNat)
  case atStart => exact ⟨0, Nat.zero_le _, rfl, by simp⟩
  case round =>
    obtain ⟨k, hk, rfl, ha⟩ := hrel
    have HA := Lib.hid ha
    clear ha
    by_cases hlt : k < 2
    · obtain ⟨x, hx⟩ : ∃ x, xs[k]? = some x := ⟨_, List.getElem?_eq_getElem (by rw [HL.out]; exact hlt)⟩
      have hcell := HC.out k x hx
      have HX := Lib.hid hx
      clear hx
      by_cases h1 : x < 0
      · go_wp2
        go_ret
        exact ⟨ret_int (by rw [plr_bad (valC_elem HX.out (by simp [inR]; omega))]; rfl), rfl⟩
      · by_cases h2 : 1000 < x
        · go_wp2
          go_ret
          exact ⟨ret_int (by rw [plr_bad (valC_elem HX.out (by simp [inR]; omega))]; rfl), rfl⟩
        · go_wp2
          go_round
          case rel => exact ⟨k + 1, by omega, by go_num, all_take_succ HX.out HA.out (by simp [inR]; omega)⟩
          case measure => simp [intOf]; omega
    · have HF : Hid (xs.all inR = true) := Lib.hid (by have h := HA.out; rwa [List.take_of_length_le (by rw [HL.out]; omega)] at h)
      cases h0 : (x0 == 0)
      · have HV := Lib.hid (plr_bad (valC_head HX0.out h0))
        go_wp2
        repeat (rw [rounds_succ]; go_wp2)
        go_ret
        exact ⟨ret_int (by rw [HV.out]; rfl), rfl⟩
      · have HV := Lib.hid (valC_ok (by rw [HL.out]; decide) HX0.out h0 HF.out)
        go_wp2
        go_ret
        exact ⟨ret_int (by simp [plr, HV.out, HL.out]), rfl⟩

set_option maxHeartbeats 800000 in
theorem rplayers_4 (ad : Addr) (cap : Nat) (xs : List Int) (x0 : Int) (w : World) (hl : xs.length = 4) (hx0 : xs[0]? = some x0) (c0 : w.cell? ad = some (.int .i64 x0)) (hc : ∀ i x, xs[i]? = some x → w.cell? (ad.add i) = some (.int .i64 x)) :
    Calls Try.prog 20 #[.slice (some ad) 4 cap] w fun e w' => e = .returned (.int .i64 (plr xs)) ∧ w = w' := by
  have HC := Lib.hid hc
  have HL := Lib.hid hl
  have HX0 := Lib.hid hx0
  clear hc hl hx0
  go_enter Try.func20, Try.ntmps20
  go_wp2
  refine wp_loop_rounds 5 ?_
  iterate 2 (rw [rounds_succ]; go_wp2)
  go_loop [17] (fun i => ∃ k : Nat, k ≤ 4 ∧ i = .int .i64 k ∧ (xs.take k).all inR = true) (fun i => 4 - (intOf i).toNat)
  case atStart => exact ⟨0, Nat.zero_le _, rfl, by simp⟩
  case round =>
    obtain ⟨k, hk, rfl, ha⟩ := hrel
    have HA := Lib.hid ha
    clear ha
    by_cases hlt : k < 4
    · obtain ⟨x, hx⟩ : ∃ x, xs[k]? = some x := ⟨_, List.getElem?_eq_getElem (by rw [HL.out]; exact hlt)⟩
      have hcell := HC.out k x hx
      have HX := Lib.hid hx
      clear hx
      by_cases h1 : x < 0
      · go_wp2
        go_ret
        exact ⟨ret_int (by rw [plr_bad (valC_elem HX.out (by simp [inR]; omega))]; rfl), rfl⟩
      · by_cases h2 : 1000 < x
        · go_wp2
          go_ret
          exact ⟨ret_int (by rw [plr_bad (valC_elem HX.out (by simp [inR]; omega))]; rfl), rfl⟩
        · go_wp2
          go_round
          case rel => exact ⟨k + 1, by omega, by go_num, all_take_succ HX.out HA.out (by simp [inR]; omega)⟩
          case measure => simp [intOf]; omega
    · have HF : Hid (xs.all inR = true) := Lib.hid (by have h := HA.out; rwa [List.take_of_length_le (by rw [HL.out]; omega)] at h)
      cases h0 : (x0 == 0)
      · have HV := Lib.hid (plr_bad (valC_head HX0.out h0))
        go_wp2
        repeat (rw [rounds_succ]; go_wp2)
        go_ret
        exact ⟨ret_int (by rw [HV.out]; rfl), rfl⟩
      · have HV := Lib.hid (valC_ok (by rw [HL.out]; decide) HX0.out h0 HF.out)
        go_wp2
        go_ret
        exact ⟨ret_int (by simp [plr, HV.out, HL.out]), rfl⟩

set_option maxHeartbeats 800000 in
theorem rplayers_8 (ad : Addr) (cap : Nat) (xs : List Int) (x0 : Int) (w : World) (hl : xs.length = 8) (hx0 : xs[0]? = some x0) (c0 : w.cell? ad = some (.int .i64 x0)) (hc : ∀ i x, xs[i]? = some x → w.cell? (ad.add i) = some (.int .i64 x)) :
    Calls Try.prog 20 #[.slice (some ad) 8 cap] w fun e w' => e = .returned (.int .i64 (plr xs)) ∧ w = w' := by
  have HC := Lib.hid hc
  have HL := Lib.hid hl
  have HX0 := Lib.hid hx0
  clear hc hl hx0
  go_enter Try.func20, Try.ntmps20
  go_wp2
  refine wp_loop_rounds 5 ?_
  iterate 3 (rw [rounds_succ]; go_wp2)
  go_loop [17] (fun i => ∃ k : Nat, k ≤ 8 ∧ i = .int .i64 k ∧ (xs.take k).all inR = true) (fun i => 8 - (intOf i).toNat)
  case atStart => exact ⟨0, Nat.zero_le _, rfl, by simp⟩
  case round =>
    obtain ⟨k, hk, rfl, ha⟩ := hrel
    have HA := Lib.hid ha
    clear ha
    by_cases hlt : k < 8
    · obtain ⟨x, hx⟩ : ∃ x, xs[k]? = some x := ⟨_, List.getElem?_eq_getElem (by rw [HL.out]; exact hlt)⟩
      have hcell := HC.out k x hx
      have HX := Lib.hid hx
      clear hx
      by_cases h1 : x < 0
      · go_wp2
        go_ret
        exact ⟨ret_int (by rw [plr_bad (valC_elem HX.out (by simp [inR]; omega))]; rfl), rfl⟩
      · by_cases h2 : 1000 < x
        · go_wp2
          go_ret
          exact ⟨ret_int (by rw [plr_bad (valC_elem HX.out (by simp [inR]; omega))]; rfl), rfl⟩
        · go_wp2
          go_round
          case rel => exact ⟨k + 1, by omega, by go_num, all_take_succ HX.out HA.out (by simp [inR]; omega)⟩
          case measure => simp [intOf]; omega
    · have HF : Hid (xs.all inR = true) := Lib.hid (by have h := HA.out; rwa [List.take_of_length_le (by rw [HL.out]; omega)] at h)
      cases h0 : (x0 == 0)
      · have HV := Lib.hid (plr_bad (valC_head HX0.out h0))
        go_wp2
        repeat (rw [rounds_succ]; go_wp2)
        go_ret
        exact ⟨ret_int (by rw [HV.out]; rfl), rfl⟩
      · have HV := Lib.hid (valC_ok (by rw [HL.out]; decide) HX0.out h0 HF.out)
        go_wp2
        go_ret
        exact ⟨ret_int (by simp [plr, HV.out, HL.out]), rfl⟩

set_option maxHeartbeats 800000 in
theorem rplayers_16 (ad : Addr) (cap : Nat) (xs : List Int) (x0 : Int) (w : World) (hl : xs.length = 16) (hx0 : xs[0]? = some x0) (c0 : w.cell? ad = some (.int .i64 x0)) (hc : ∀ i x, xs[i]? = some x → w.cell? (ad.add i) = some (.int .i64 x)) :
    Calls Try.prog 20 #[.slice (some ad) 16 cap] w fun e w' => e = .returned (.int .i64 (plr xs)) ∧ w = w' := by
  have HC := Lib.hid hc
  have HL := Lib.hid hl
  have HX0 := Lib.hid hx0
  clear hc hl hx0
  go_enter Try.func20, Try.ntmps20
  go_wp2
  refine wp_loop_rounds 5 ?_
  iterate 4 (rw [rounds_succ]; go_wp2)
  go_loop [17] (fun i => ∃ k : Nat, k ≤ 16 ∧ i = .int .i64 k ∧ (xs.take k).all inR = true) (fun i => 16 - (intOf i).toNat)
  case atStart => exact ⟨0, Nat.zero_le _, rfl, by simp⟩
  case round =>
    obtain ⟨k, hk, rfl, ha⟩ := hrel
    have HA := Lib.hid ha
    clear ha
    by_cases hlt : k < 16
    · obtain ⟨x, hx⟩ : ∃ x, xs[k]? = some x := ⟨_, List.getElem?_eq_getElem (by rw [HL.out]; exact hlt)⟩
      have hcell := HC.out k x hx
      have HX := Lib.hid hx
      clear hx
      by_cases h1 : x < 0
      · go_wp2
        go_ret
        exact ⟨ret_int (by rw [plr_bad (valC_elem HX.out (by simp [inR]; omega))]; rfl), rfl⟩
      · by_cases h2 : 1000 < x
        · go_wp2
          go_ret
          exact ⟨ret_int (by rw [plr_bad (valC_elem HX.out (by simp [inR]; omega))]; rfl), rfl⟩
        · go_wp2
          go_round
          case rel => exact ⟨k + 1, by omega, by go_num, all_take_succ HX.out HA.out (by simp [inR]; omega)⟩
          case measure => simp [intOf]; omega
    · have HF : Hid (xs.all inR = true) := Lib.hid (by have h := HA.out; rwa [List.take_of_length_le (by rw [HL.out]; omega)] at h)
      cases h0 : (x0 == 0)
      · have HV := Lib.hid (plr_bad (valC_head HX0.out h0))
        go_wp2
        repeat (rw [rounds_succ]; go_wp2)
        go_ret
        exact ⟨ret_int (by rw [HV.out]; rfl), rfl⟩
      · have HV := Lib.hid (valC_ok (by rw [HL.out]; decide) HX0.out h0 HF.out)
        go_wp2
        go_ret
        exact ⟨ret_int (by simp [plr, HV.out, HL.out]), rfl⟩

set_option maxHeartbeats 400000 in
theorem rplayers_else (A : Option Addr) (n cap : Nat) (w : World) (h2 : n ≠ 2) (h4 : n ≠ 4) (h8 : n ≠ 8) (h16 : n ≠ 16) :
    Calls Try.prog 20 #[.slice A n cap] w fun e w' => e = .returned (.int .i64 0) ∧ w = w' := by
  have e2 : ((n : Int) != 2) = true := by rw [bne_iff_ne]; omega
  have e4 : ((n : Int) != 4) = true := by rw [bne_iff_ne]; omega
  have e8 : ((n : Int) != 8) = true := by rw [bne_iff_ne]; omega
  have e16 : ((n : Int) != 16) = true := by rw [bne_iff_ne]; omega
  clear h2 h4 h8 h16
  go_enter Try.func20, Try.ntmps20
  go_wp2
  refine wp_loop_rounds 5 ?_
  repeat (rw [rounds_succ]; go_wp2)
  go_ret
  exact ⟨rfl, rfl⟩

theorem rplayers_any (A : Option Addr) (n cap : Nat) (xs : List Int) (w : World) (hl : xs.length = n) (hm : n ≤ 9223372036854775807) (h : Ints w A xs) :
    Calls Try.prog 20 #[.slice A n cap] w fun e w' => e = .returned (.int .i64 (plr xs)) ∧ w = w' := by
  by_cases hn : n = 2 ∨ n = 4 ∨ n = 8 ∨ n = 16
  · obtain ⟨ad, rfl, _, hc⟩ := h.some_ (by omega)
    obtain ⟨x0, hx0⟩ : ∃ x, xs[0]? = some x := ⟨_, List.getElem?_eq_getElem (by omega)⟩
    rcases hn with rfl | rfl | rfl | rfl
    · exact rplayers_2 ad cap xs x0 w hl hx0 (hc 0 x0 hx0) hc
    · exact rplayers_4 ad cap xs x0 w hl hx0 (hc 0 x0 hx0) hc
    · exact rplayers_8 ad cap xs x0 w hl hx0 (hc 0 x0 hx0) hc
    · exact rplayers_16 ad cap xs x0 w hl hx0 (hc 0 x0 hx0) hc
  · have e : plr xs = 0 := plr_bad (valC_len (by omega))
    rw [e]
    exact rplayers_else A n cap w (by omega) (by omega) (by omega) (by omega)

/- Contract: Shapley of package corrodyref07, of valid costs. -/

theorem zs_get {L : List (List Nat)} {j : Nat} {os : List Nat} (h : L[j]? = some os) : (zs L)[j]? = some (os.map Int.ofNat) := by simp [zs, h]
/-- A row of the list of orders, behind what leaves it alone. -/
theorem Row1.kept {w w' : World} {B b lo : Nat} {S : List Nat} {v : Value} {os : List Int} (h : Row1 w b v os) (hk : Kept B S w w') (hB : w.heap.size ≤ B) (hlo : ∀ ad n c, v = .slice (some ad) n c → lo ≤ ad.block) (hS : ∀ x ∈ S, x < lo) :
    ∃ A c, v = .slice A os.length c ∧ os.length ≤ c ∧ c ≤ 9223372036854775807 ∧ Ints w' A os := by
  obtain ⟨A, c, hv, h1, h2, h3, _⟩ := h
  refine ⟨A, c, hv, h1, h2, fun i u hu => ?_⟩
  obtain ⟨ad, hA, hc⟩ := h3 i u hu
  refine ⟨ad, hA, ?_⟩
  have hlt := lt_of_cell hc
  have := hlo ad _ _ (by rw [← hA]; exact hv)
  rw [hk.cell (by omega) (fun hm => by have := hS _ hm; rw [add_block] at this; omega)]
  exact hc

set_option maxRecDepth 100000 in
set_option maxHeartbeats 4000000 in
theorem rshapley_ok (ac : Addr) (N cap : Nat) (c : List Int) (w : World) (hl : c.length = N) (hv : valC c = true) (hI : Ints w (some ac) c) :
    Calls Try.prog 30 #[.slice (some ac) N cap] w fun e w' => ∃ A' c', e = .returned (.slice A' (plr c) c') ∧ w'.ownsRow w.heap.size 31 2 (.slice A' (plr c) c') (plr c) (fcells (shapL c (plr c))) ∧ Below w.heap.size w w' := by
  have hnp := plr_np hv
  rw [hl] at hnp
  have hp := valC_pow hv
  obtain ⟨n, hn⟩ : ∃ n, n = plr c := ⟨_, rfl⟩
  rw [← hn] at hnp hp ⊢
  have hn4 : n ≤ 4 := by omega
  have hn0 : 1 ≤ n := by omega
  have hN16 : N ≤ 16 := by omega
  have hmk := make_ints n (by omega)
  have hcb := (valC_iff.1 hv).2.2
  have hel := ext_len hn4
  have hac : ac.block < w.heap.size := by
    obtain ⟨ad, h, hb, _⟩ := hI.some_ (by omega)
    injection h with h; subst h; exact hb
  have H := Lib.hid (And.intro hI (And.intro hl (And.intro hn (And.intro hp (And.intro hcb hac)))))
  clear hI hl hv hnp hp hn hcb hac
  go_enter Try.func30, Try.ntmps30
  go_wp2_with fail
  refine (rplayers_any (some ac) N cap c _ H.out.2.1 (by omega) H.out.1).mono ?_
  rintro e w' ⟨rfl, rfl⟩
  rw [← H.out.2.2.1]
  go_wp2_with fail
  refine (rorders_any n hn4 n [] 0 none 0 _ (w.heap.size + 1) (w.heap.size + 1) rfl (by omega) (by omega) (by omega) (fun _ => ⟨rfl, rfl⟩) (by simp) (by simp) (fun _ h => by cases h) ⟨none, 0, rfl, by simp, by omega, Ints.nil, fun _ h => by cases h⟩ (by simp)).mono ?_
  rintro e w2 ⟨A2, k2, vs, rfl, hown2, hrows2, hlo2, hbl2⟩
  have hz1 : (w.alloc (.cells (arr (List.replicate n 0)) 3)).heap.size = w.heap.size + 1 := by simp
  rw [hz1] at hbl2 hown2
  have hbS2 : Blk w2 w.heap.size 3 (arr (List.replicate n 0)) := (Blk.new _ _ _ rfl).below hbl2 (by omega)
  have hW2 : Below w.heap.size w w2 := ((Below.refl _ _).alloc (Nat.le_refl _) _).trans (hbl2.mono (by omega))
  obtain ⟨L, hL⟩ : ∃ L, L = ext n n [] := ⟨_, rfl⟩
  have hmemL := ext_mem (n := n) (m := n) (pre := []) (by simp)
  rw [← hL] at hel hmemL hown2 hrows2 ⊢
  have hLl : L.length ≤ 24 ∧ 1 ≤ L.length := by omega
  obtain ⟨q, hq⟩ : ∃ q, q = L.length := ⟨_, rfl⟩
  rw [← hq] at hown2 hLl ⊢
  have hzz := hbS2.lt
  have hA2 : ∃ g2, A2 = some ⟨g2, 0, none⟩ ∧ w.heap.size + 1 ≤ g2 ∧ g2 < w2.heap.size := own_some hown2 (by omega)
  obtain ⟨g2, rfl, hg2, hg2'⟩ := hA2
  have hcells := own_cells hown2
  have hvl : vs.length = q := by have := hown2.1; omega
  have H2 := Lib.hid (And.intro hbS2 (And.intro hrows2 (And.intro hlo2 (And.intro hW2 (And.intro hL (And.intro hmemL (And.intro hcells (And.intro hvl hq))))))))
  clear hbS2 hrows2 hlo2 hW2 hmemL hcells hown2 hbl2 hvl hel hq hL
  go_wp2_with fail
  go_loopw [21] (fun jv wr => ∃ j : Nat, j ≤ q ∧ jv = .int .i64 j ∧ Blk wr w.heap.size 3 (arr (addAll c n (List.replicate n 0) (L.take j))) ∧ Kept w2.heap.size [w.heap.size] w2 wr) (fun jv _ => q - (intOf jv).toNat)
  case atStart => exact ⟨0, Nat.zero_le _, rfl, H2.out.1, Kept.refl _ _ _⟩
  case round =>
    obtain ⟨j, hj, rfl, hbS, hK⟩ := hrel
    obtain ⟨wo, rfl⟩ : ∃ wo : World, wo = wr := ⟨_, rfl⟩
    by_cases hlt : j < q
    · obtain ⟨hbS2, hrows2, hlo2, hW2, hL, hmemL, hcells, hvl, hq⟩ := H2.out
      obtain ⟨os, hos⟩ : ∃ os, L[j]? = some os := ⟨_, List.getElem?_eq_getElem (by omega)⟩
      obtain ⟨v, hvj, hrow⟩ := hrows2.2 j _ (zs_get hos)
      have hvm := List.mem_of_getElem? hvj
      obtain ⟨A3, c3, rfl, h31, h32, hI3⟩ := hrow.kept hK (Nat.le_refl _) (hlo2 v hvm) (lo := w.heap.size + 1) (by simp)
      have hosm := hmemL os (List.mem_of_getElem? hos)
      have hosl : os.length = n := by have := hosm.1; simp at this; omega
      have hol : (os.map Int.ofNat).length = n := by simpa using hosl
      rw [hol] at h31 hvj
      obtain ⟨ad3, rfl, _, hc3⟩ := hI3.some_ (by omega)
      have hcj := (hK.cell (p := (⟨g2, 0, none⟩ : Addr).add j) (by rw [add_block]; exact hg2') (by rw [add_block]; simp; omega)).trans (hcells j _ hvj)
      have hcc : ∀ i x, c[i]? = some x → wo.cell? (ac.add i) = some (.int .i64 x) := fun i x hi => by
        have h0 := H.out.1.some2 i (.int .i64 x) (by simp [hi])
        have h1 := lt_of_cell h0
        have h2 := (hW2.cell h1).trans h0
        rw [hK.cell (lt_of_cell h2) (by rw [add_block] at h1 ⊢; simp; omega)]
        exact h2
      have hcj' : wo.cell? ⟨g2, j, none⟩ = some (.slice (some ad3) n c3) := by
        rw [← hcj]; congr 1; unfold Addr.add; split
        · rename_i h; subst h; rfl
        · simp
      have HS : Hid (L.take (j + 1) = L.take j ++ [os]) := Lib.hid (by rw [List.take_add_one, hos]; rfl)
      have hco3 : ∀ i x, os[i]? = some x → wo.cell? (ad3.add i) = some (.int .i64 (x : Nat)) := fun i x hx => hc3 i (x : Nat) (by simp [hx])
      have hosm2 := hosm.2
      have H3 := Lib.hid (And.intro hbS (And.intro hK (And.intro hcc (And.intro hco3 (And.intro hosl hosm2)))))
      have hwz : w2.heap.size ≤ wo.heap.size := hK.size
      clear hbS2 hrows2 hlo2 hW2 hL hmemL hcells hvl hq hos hvj hrow hvm hI3 hosm hosl hol hc3 hcj hcc hco3 hosm2 hbS hK
      go_wp2_with fail
      refine (rjoin_any ad3 ac N cap n c3 c os _ hn4 (by rw [← H.out.2.1]; exact H.out.2.2.2.1.1) H.out.2.1 H3.out.2.2.2.2.1 H3.out.2.2.1 H3.out.2.2.2.1 H3.out.2.2.2.2.2 H.out.2.2.2.2.1).mono ?_
      rintro e w3 ⟨rfl, hJ, hb3⟩
      have hjl : (joinL c os).length = n := by
        have := (joinP_bd c n os H3.out.2.2.2.2.2).2
        rw [joinL, H3.out.2.2.2.2.1]; exact this
      have hjb := joinL_bd H.out.2.2.2.2.1 os
      obtain ⟨js, hjs⟩ : ∃ js, js = joinL c os := ⟨_, rfl⟩
      rw [← hjs] at hJ hjl hjb
      obtain ⟨sums, hsums⟩ : ∃ s, s = addAll c n (List.replicate n 0) (L.take j) := ⟨_, rfl⟩
      have hbS3 : Blk w3 w.heap.size 3 (arr sums) := by rw [hsums]; exact H3.out.1.below hb3 H3.out.1.lt
      have hsl : sums.length = n := by rw [hsums, addAll_length]; simp
      have hsb : ∀ y ∈ sums, -30000 ≤ y ∧ y ≤ 30000 := by
        intro y hy
        rw [hsums] at hy
        have := addAll_bd H.out.2.2.2.2.1 n (L.take j) (List.replicate n 0) 0 (by omega) (by intro z hz; rw [List.mem_replicate] at hz; omega) y hy
        have h2 : (L.take j).length ≤ 24 := by rw [List.length_take]; omega
        omega
      have hSlt : w.heap.size < wo.heap.size := H3.out.1.lt
      have H4 := Lib.hid (And.intro hJ (And.intro hjl (And.intro hjb (And.intro hjs (And.intro hbS3 (And.intro hsl (And.intro hsb (And.intro hsums hb3))))))))
      clear hJ hjl hjb hjs hbS3 hsl hsb hsums hb3
      go_wp2_with fail
      go_loopw [29] (fun iv wr => ∃ k : Nat, k ≤ n ∧ iv = .int .i64 k ∧ Blk wr w.heap.size 3 (arr (addUp sums js k)) ∧ Kept wo.heap.size [w.heap.size] wo wr ∧ Blk wr wo.heap.size 3 (arr js)) (fun iv _ => n - (intOf iv).toNat)
      case atStart => exact ⟨0, Nat.zero_le _, rfl, H4.out.2.2.2.2.1, Kept.of_below H4.out.2.2.2.2.2.2.2.2 _, H4.out.1⟩
      case round =>
        obtain ⟨k, h1, rfl, bS, hK, bJ⟩ := hrel
        by_cases hlk : k < n
        · have hul : k < (addUp sums js k).length := by rw [addUp_length, H4.out.2.2.2.2.2.1]; exact hlk
          obtain ⟨x, hx⟩ : ∃ x, js[k]? = some x := ⟨_, List.getElem?_eq_getElem (by rw [H4.out.2.1]; exact hlk)⟩
          obtain ⟨z, hz⟩ : ∃ x, (addUp sums js k)[k]? = some x := ⟨_, List.getElem?_eq_getElem hul⟩
          have hxb := H4.out.2.2.1 x (List.mem_of_getElem? hx)
          have hzb := addUp_bd H4.out.2.2.2.2.2.2.1 H4.out.2.2.1 (by omega) k z (List.mem_of_getElem? hz)
          have c1 : wr.cell? ⟨wo.heap.size, k, none⟩ = some (.int .i64 x) := by rw [bJ.cell, arr_get, hx]; rfl
          have c2 : wr.cell? ⟨w.heap.size, k, none⟩ = some (.int .i64 z) := by rw [bS.cell, arr_get, hz]; rfl
          have f2 : wr.frozen? ⟨w.heap.size, k, none⟩ = false := bS.frozen k
          have HNEW : Hid (addUp sums js (k + 1) = (addUp sums js k).set k (z + x)) := Lib.hid (by
            rw [addUp, List.getD_eq_getElem?_getD, List.getD_eq_getElem?_getD, hz, hx]; rfl)
          have H5 := Lib.hid (And.intro bS (And.intro hK bJ))
          clear bS hK bJ hx hz hul
          go_wp2
          go_roundw
          case rel =>
            obtain ⟨bS, hK, bJ⟩ := H5.out
            refine ⟨k + 1, by omega, by go_num, ?_, hK.setCell (.inl (by simp)) _, bJ.far (by show wo.heap.size ≠ w.heap.size; omega) _⟩
            rw [HNEW.out, ← arr_set]
            exact bS.set_ k _
          case measure => simp [intOf]; omega
        · obtain rfl : k = n := by omega
          have H5 := Lib.hid (And.intro bS hK)
          clear bS hK bJ
          go_wp2_with fail
          go_roundw
          case rel =>
            refine ⟨j + 1, by omega, by go_num, ?_, H3.out.2.1.trans (H5.out.2.mono hwz (by simp))⟩
            rw [HS.out, addAll_append, ← H4.out.2.2.2.2.2.2.2.1]
            show Blk _ _ _ (arr (addUp sums (joinL c os) k))
            rw [← H4.out.2.2.2.1]
            exact H5.out.1
          case measure => simp [intOf]; omega
    · obtain rfl : j = q := by omega
      have hfull : L.take j = L := List.take_of_length_le (by have := H2.out.2.2.2.2.2.2.2.2; omega)
      rw [hfull] at hbS
      have hss : addAll c n (List.replicate n 0) L = sumsL c n := by rw [H2.out.2.2.2.2.1]; rfl
      rw [hss] at hbS
      have hbw : Below w.heap.size w wo := H2.out.2.2.2.1.trans (hK.mono (B' := w.heap.size) (S' := []) (by omega) (by simp)).below
      have hj24 : (1 : Int) ≤ (j : Int) ∧ (j : Int) ≤ 24 := by omega
      have hsd := sums_bd H.out.2.2.2.2.1 hn4
      have hcn : (ext n n []).length = j := by have := H2.out.2.2.2.2.2.2.2.2; rw [H2.out.2.2.2.2.1] at this; exact this.symm
      have H6 := Lib.hid (And.intro hbS (And.intro hbw (And.intro hsd hcn)))
      have hSlt : w.heap.size < wo.heap.size := hbS.lt
      clear hfull hss hbS hbw hsd hcn hK
      go_wp2_with fail
      go_loopw [10, 45] (fun ov iv wr => ∃ (k : Nat) (A : Option Addr) (cp : Nat), k ≤ n ∧ iv = .int .i64 k ∧ ov = .slice A k cp ∧ wr.ownsRow wo.heap.size 31 2 (.slice A k cp) k (fcells ((shapL c n).take k)) ∧ Below wo.heap.size wo wr) (fun _ iv _ => n - (intOf iv).toNat)
      case atStart => exact ⟨0, none, 0, Nat.zero_le _, rfl, rfl, by simpa [fcells] using World.ownsRow_nil _ _ _ _, Below.refl _ _⟩
      case round =>
        obtain ⟨k, A, cp, hkn, rfl, rfl, hown, hbl⟩ := hrel
        by_cases hlk : k < n
        · have hsl : (sumsL c n).length = n := by unfold sumsL; rw [addAll_length]; simp
          obtain ⟨x, hx⟩ : ∃ x, (sumsL c n)[k]? = some x := ⟨_, List.getElem?_eq_getElem (by rw [hsl]; exact hlk)⟩
          have hxb := H6.out.2.2.1 x (List.mem_of_getElem? hx)
          have c1 : wr.cell? ⟨w.heap.size, k, none⟩ = some (.int .i64 x) := by
            rw [(H6.out.1.below hbl hSlt).cell, arr_get, hx]; rfl
          have hq : (shapL c n)[k]? = some (Rat.divInt x j) := by unfold shapL; rw [List.getElem?_map, hx, H6.out.2.2.2]; rfl
          have HNEW : Hid (fcells ((shapL c n).take (k + 1)) = fcells ((shapL c n).take k) ++ [.int .i64 (Rat.divInt x j).num, .int .i64 ((Rat.divInt x j).den : Int)]) := Lib.hid (by
            rw [List.take_add_one, hq]; exact fcells_snoc _ _)
          have HR := Lib.hid (And.intro hown hbl)
          clear hown hbl hx hq hsl
          go_wp2_with fail
          refine (rof_any x j _ (by omega) (by omega) (by omega) (by omega)).mono ?_
          rintro e w3 ⟨rfl, hb3⟩
          generalize Rat.divInt x (j : Int) = q at HNEW ⊢
          have hown3 := own_below HR.out.1 hb3
          have hbl3 : Below wo.heap.size wo w3 := HR.out.2.trans (hb3.mono HR.out.2.size)
          have HR3 := Lib.hid (And.intro hown3 hbl3)
          have hw3 : wo.heap.size ≤ w3.heap.size := hbl3.size
          clear hown3 hbl3 hb3
          unfold fr
          go_wp2_with (at_builtin; refine app1 sty_frac rfl _ _ rfl wo.heap.size A k cp _ #[.int .i64 q.num, .int .i64 (q.den : Int)] rfl (by simp [Value.oneCell']) rfl HR3.out.1 rfl (by omega) hw3 ?_)
          intro A4 k4 w4 hown4 _ hbl4 hk41 hk42
          rw [← HNEW.out] at hown4
          have HR4 := Lib.hid (And.intro hown4 (HR3.out.2.trans hbl4))
          clear hown4 hbl4
          go_wp2
          go_roundw
          case rel => exact ⟨k + 1, A4, k4, by omega, by go_num, rfl, HR4.out.1, HR4.out.2⟩
          case measure => simp [intOf]; omega
        · obtain rfl : k = n := by omega
          have HR := Lib.hid (And.intro hown (H6.out.2.1.trans (hbl.mono (by omega))))
          clear hown hbl
          go_wp2
          go_ret
          refine ⟨A, cp, rfl, ?_, HR.out.2⟩
          have h := own_mono HR.out.1 (Nat.le_of_lt hSlt)
          rwa [List.take_of_length_le (by rw [shapL_length]; exact Nat.le_refl _)] at h

/- Contracts: the copies of the beginning of an argument that the statements of package corrodylaw07 make. -/

set_option maxHeartbeats 400000 in
theorem list_any (A : Option Addr) (n cap : Nat) (xs : List Int) (w : World) (hl : xs.length = n) (hc : n ≤ cap) (hm : cap ≤ 9223372036854775807) (h : Ints w A xs) :
    Calls Try.prog 19 #[.slice A n cap] w fun e w' => ∃ A' c, e = .returned (.slice A' (min n 18) c) ∧ w'.ownsRow w.heap.size 3 1 (.slice A' (min n 18) c) (min n 18) ((xs.take 18).map (Value.int .i64)) ∧ Below w.heap.size w w' := by
  have h18 : min n 18 ≤ 18 := by omega
  have hk := h.take 18
  have hl' : (xs.take 18).length = min n 18 := by rw [List.length_take, hl]; omega
  have HK := Lib.hid hk
  have HL := Lib.hid hl'
  clear hk h hl hl'
  by_cases h0 : n ≤ 18
  · have e0 : min n 18 = n := by omega
    rw [e0]
    have HE := Lib.hid e0
    clear e0
    go_enter Try.func19, Try.ntmps19
    go_wp2_with fail
    refine (clone_any A n cap (xs.take 18) _ (by rw [HL.out, HE.out]) (by omega) HK.out).mono ?_
    rintro e w' ⟨A', c, rfl, hown, hb⟩
    have HO := Lib.hid hown
    have HB := Lib.hid hb
    clear hown hb
    go_wp2
    go_ret
    exact ⟨A', c, rfl, HO.out, HB.out⟩
  · have e0 : min n 18 = 18 := by omega
    rw [e0]
    have HE := Lib.hid e0
    clear e0
    go_enter Try.func19, Try.ntmps19
    go_wp2_with fail
    refine (clone_any A 18 cap (xs.take 18) _ (by rw [HL.out, HE.out]) (by omega) HK.out).mono ?_
    rintro e w' ⟨A', c, rfl, hown, hb⟩
    have HO := Lib.hid hown
    have HB := Lib.hid hb
    clear hown hb
    go_wp2
    go_ret
    exact ⟨A', c, rfl, HO.out, HB.out⟩

/- Contract: awake of package corrodylaw07: one player pays the cost. -/

theorem shap_05 : shapL [0, 5] 1 = [5] := by decide +kernel

set_option maxHeartbeats 800000 in
theorem awake_any (w : World) : Calls Try.prog 21 #[] w fun e w' => e = .returned (.bool true) ∧ Below w.heap.size w w' := by
  have hI : Ints (w.alloc (.cells #[.int .i64 0, .int .i64 5] 3)) (some ⟨w.heap.size, 0, none⟩) [0, 5] := Blk.ints (xs := [0, 5]) (Blk.new w 3 _ rfl)
  have HI := Lib.hid hI
  clear hI
  go_enter Try.func21, Try.ntmps21
  go_wp2_with fail
  refine (shapley_ok _ 2 2 [0, 5] _ rfl HI.out (by decide)).mono ?_
  rintro e w1 ⟨A', c', rfl, hown, hb⟩
  have hp : plr [0, 5] = 1 := by decide
  rw [hp] at hown ⊢
  rw [shap_05] at hown
  have H1 := Lib.hid (And.intro hown hb)
  clear hown hb hp
  go_wp2_with fail
  obtain ⟨hown, hb⟩ := H1.out
  have hF : Fracs w1 A' [5] := At.of_own hown
  have hG : Fracs (w1.alloc (.cells #[.int .i64 5, .int .i64 1] 31)) (some ⟨w1.heap.size, 0, none⟩) [5] := by
    have h := (Blk.new w1 31 #[.int .i64 5, .int .i64 1] rfl).at_
    exact h
  refine (equalF_any A' (some ⟨w1.heap.size, 0, none⟩) 1 1 c' 1 [5] [5] _ rfl rfl (by omega) (hF.below ((Below.refl _ _).alloc (by go_size) _)) hG).mono ?_
  rintro e w2 ⟨rfl, m, rfl⟩
  have e1 : eqB ([5] : List Rat) [5] = true := by decide +kernel
  rw [e1]
  have H2 := Lib.hid (((Below.refl _ _).alloc (Nat.le_refl _) (.cells #[.int .i64 0, .int .i64 5] 3)).trans (hb.mono (by simp)))
  have hz : w.heap.size ≤ w1.heap.size := H2.out.size
  clear hown hb hF hG
  go_wp2
  go_ret
  exact ⟨rfl, below_drewN (H2.out.alloc hz _) _⟩

/- GamesShapley returns true for every costs and every order: the walk. -/

theorem ordR_len {n : Nat} {l : List Int} (h : l.length ≠ n) : ordR n l = false := by
  unfold ordR; rw [decide_eq_false h, Bool.and_false]
theorem ord_take {n : Nat} (h1 : 1 ≤ n) (h4 : n ≤ 4) (l : List Int) : ordG n (l.take 18) = ordR n l := by
  rw [ordG_eq h1 h4]
  by_cases h : l.length ≤ 18
  · rw [take18 h]
  · rw [ordR_len (l := l) (by omega), ordR_len (by rw [List.length_take]; omega)]
theorem below_drewN' {B : Nat} {w w' : World} (h : Below B w w') (n : Nat) : Below B w (w'.drewN n) := below_drewN h n

set_option maxRecDepth 100000 in
set_option maxHeartbeats 1600000 in
theorem law_shapley (A : Option Addr) (n cap : Nat) (O : Option Addr) (m capo : Nat) (c l : List Int) (w : World) (hl : c.length = n) (hcp : n ≤ cap) (hm : cap ≤ 9223372036854775807) (hlo : l.length = m) (hmo : m ≤ capo) (hco : capo ≤ 9223372036854775807)
    (hc : Ints w A c) (ho : Ints w O l) :
    Calls Try.prog 5 #[.slice A n cap, .slice O m capo] w fun e w' => e = .returned (.bool true) ∧ Below w.heap.size w w' := by
  have H := Lib.hid (And.intro hl (And.intro hlo (And.intro hc ho)))
  clear hl hlo hc ho
  go_enter Try.func5, Try.ntmps5
  go_wp2_with fail
  refine (list_any A n cap c _ H.out.1 hcp hm H.out.2.2.1).mono ?_
  rintro e w1 ⟨A1, c1, rfl, hown, hb⟩
  have hI : Ints w1 A1 (c.take 18) := At.of_own hown
  have hlt : (c.take 18).length = min n 18 := by rw [List.length_take, H.out.1]; omega
  have H1 := Lib.hid (And.intro hI (And.intro hb hlt))
  clear hown hb hI hlt
  go_wp2_with fail
  refine (list_any O m capo l _ H.out.2.1 hmo hco (H.out.2.2.2.below H1.out.2.1)).mono ?_
  rintro e w2 ⟨A2, c2, rfl, hown, hb⟩
  have hI : Ints w2 A2 (l.take 18) := At.of_own hown
  have hlt : (l.take 18).length = min m 18 := by rw [List.length_take, H.out.2.1]; omega
  have H2 := Lib.hid (And.intro hI (And.intro (H1.out.2.1.trans (hb.mono H1.out.2.1.size)) (And.intro hlt (H1.out.1.below hb))))
  clear hown hb hI hlt
  go_wp2_with fail
  have hjoin : ∃ J : World → Value → Int → Prop,
      (∀ w' v x, J w' v x → (valC c = false ∧ v = .slice none 0 0 ∧ x = 2) ∨ (valC c = true ∧ ordR (plr c) l = false ∧ v = .slice none 0 0 ∧ x = 2) ∨ (valC c = true ∧ ordR (plr c) l = true ∧ ∃ g, v = .slice (some ⟨g, 0, none⟩) (plr c) (plr c) ∧ x = 0 ∧ Blk w' g 3 (arr (joinZ c l)))) ∧
      Calls Try.prog 28 #[.slice A1 (min n 18) c1, .slice A2 (min m 18) c2] w2 fun e w' => ∃ v x, e = .returned (.tuple #[v, .int .i64 x]) ∧ J w' v x ∧ Below w2.heap.size w2 w' := by
    refine ⟨_, fun w' v x h => h, ?_⟩
    cases hv : valC c
    · exact (gjoin_bad A1 (min n 18) c1 A2 (min m 18) c2 (c.take 18) (l.take 18) w2 H1.out.2.2 (by omega) H2.out.2.2.1 (by omega) H2.out.2.2.2 H2.out.1 (.inl (by rw [valC_take]; exact hv))).mono
        fun e w' h => ⟨_, _, h.1, .inl ⟨rfl, rfl, rfl⟩, h.2⟩
    · have hp := valC_pow hv
      have h18 : c.take 18 = c := take18 (by have := (valC_iff.1 hv).1; omega)
      have hot := ord_take hp.2.1 hp.2.2 l
      cases hor : ordR (plr c) l
      · rw [hor] at hot
        exact (gjoin_bad A1 (min n 18) c1 A2 (min m 18) c2 (c.take 18) (l.take 18) w2 H1.out.2.2 (by omega) H2.out.2.2.1 (by omega) H2.out.2.2.2 H2.out.1 (.inr ⟨by rw [valC_take]; exact hv, by rw [h18]; exact hot⟩)).mono
          fun e w' h => ⟨_, _, h.1, .inr (.inl ⟨rfl, rfl, rfl, rfl⟩), h.2⟩
      · rw [hor] at hot
        have hll : l.length = plr c := by
          unfold ordR at hor; rw [Bool.and_eq_true, decide_eq_true_eq] at hor; exact hor.2
        have hl18 : l.take 18 = l := take18 (by omega)
        obtain ⟨ad1, hA1, _, _⟩ := H2.out.2.2.2.some_ (by rw [h18, hp.1]; exact Nat.pos_of_neZero _)
        have hcI := H2.out.2.2.2
        have hlI := H2.out.1
        have hcl := H1.out.2.2
        have hll2 := H2.out.2.2.1
        rw [h18] at hcI hcl
        rw [hl18] at hot hlI hll2
        rw [hA1] at hcI ⊢
        exact (gjoin_ok ad1 (min n 18) c1 A2 (min m 18) c2 c l w2 hcl hv hll2 (by omega) hcI hlI hot).mono
          fun e w' ⟨g, h1, _, h2, h3⟩ => ⟨_, _, h1, .inr (.inr ⟨rfl, rfl, g, rfl, rfl, h2⟩), h3⟩
  obtain ⟨J, hJ, hcalls⟩ := hjoin
  have HJ := Lib.hid hJ
  clear hJ
  refine hcalls.mono ?_
  rintro e w3 ⟨v3, x3, rfl, hJ3, hb3⟩
  have h3 := HJ.out _ _ _ hJ3
  have hbl3 : Below w.heap.size w w3 := H2.out.2.1.trans (hb3.mono H2.out.2.1.size)
  have HB3 := Lib.hid hbl3
  clear hbl3 hb3 hJ3
  rcases h3 with ⟨hv, rfl, rfl⟩ | hvv
  · have hv' : valC (c.take 18) = false := by rw [valC_take]; exact hv
    have HV := Lib.hid (And.intro hv hv')
    clear hv hv'
    go_wp2_with fail
    refine (list_any A n cap c _ H.out.1 hcp hm (H.out.2.2.1.below HB3.out)).mono ?_
    rintro e w4 ⟨A4, c4, rfl, hown, hb⟩
    have hI : Ints w4 A4 (c.take 18) := At.of_own hown
    have H4 := Lib.hid (And.intro hI (HB3.out.trans (hb.mono HB3.out.size)))
    clear hown hb hI
    go_wp2_with fail
    refine (shapley_bad A4 (min n 18) c4 (c.take 18) _ H1.out.2.2 (by omega) H4.out.1 HV.out.2).mono ?_
    rintro e w5 ⟨rfl, hb5⟩
    have HB5 := Lib.hid (H4.out.2.trans (hb5.mono H4.out.2.size))
    clear hb5
    go_wp2_with fail
    refine (rplayers_any A n cap c _ H.out.1 (by omega) (H.out.2.2.1.below HB5.out)).mono ?_
    rintro e w' ⟨rfl, rfl⟩
    rw [plr_bad HV.out.1]
    go_wp2_with fail
    refine (awake_any _).mono ?_
    rintro e w6 ⟨rfl, hb6⟩
    have HB6 := Lib.hid (HB5.out.trans (hb6.mono HB5.out.size))
    clear hb6
    go_wp2_with fail
    go_ret
    exact ⟨rfl, HB6.out⟩
  · have hv : valC c = true := by rcases hvv with h | h <;> exact h.1
    have hlen := (valC_iff.1 hv).1
    have h18 : c.take 18 = c := take18 (by omega)
    have hn18 : min n 18 = n := by have := H.out.1; omega
    have hp := valC_pow hv
    obtain ⟨k, hk⟩ : ∃ k, k = plr c := ⟨_, rfl⟩
    rw [← hk] at hvv hp
    have hk4 : 1 ≤ k ∧ k ≤ 4 := hp.2
    have hn16 : 2 ≤ n ∧ n ≤ 16 := by have := H.out.1; omega
    have hA : ∃ ad, A = some ad := by obtain ⟨ad, h, _⟩ := H.out.2.2.1.some_ (by omega); exact ⟨ad, h⟩
    obtain ⟨ad, rfl⟩ := hA
    have HV := Lib.hid (And.intro hv (And.intro h18 (And.intro hn18 (And.intro hp hk))))
    have HVV := Lib.hid hvv
    have hv3 : ∃ g3 n3, v3 = .slice g3 n3 n3 := by
      rcases hvv with ⟨_, _, rfl, _⟩ | ⟨_, _, g, rfl, _⟩
      · exact ⟨_, _, rfl⟩
      · exact ⟨_, _, rfl⟩
    obtain ⟨g3, n3, rfl⟩ := hv3
    clear hv h18 hn18 hp hk hlen hvv
    go_wp2_with fail
    refine (list_any (some ad) n cap c _ H.out.1 hcp hm (H.out.2.2.1.below HB3.out)).mono ?_
    rintro e w4 ⟨A4, c4, rfl, hown, hb⟩
    rw [HV.out.2.2.1] at hown ⊢
    rw [HV.out.2.1] at hown
    have hI : Ints w4 A4 c := At.of_own hown
    have H4 := Lib.hid (And.intro hI (And.intro (HB3.out.trans (hb.mono HB3.out.size)) hb))
    clear hown hb hI
    go_wp2_with fail
    refine (shapley_ok A4 n c4 c _ H.out.1 H4.out.1 HV.out.1).mono ?_
    rintro e w5 ⟨A5, c5, rfl, hown, hb5⟩
    have hF : Fracs w5 A5 (shapL c (plr c)) := At.of_own hown
    rw [← HV.out.2.2.2.2] at hF ⊢
    have H5 := Lib.hid (And.intro hF (And.intro (H4.out.2.1.trans (hb5.mono H4.out.2.1.size)) (H4.out.2.2.trans (hb5.mono H4.out.2.2.size))))
    clear hown hF hb5
    go_wp2_with fail
    refine (rplayers_any (some ad) n cap c _ H.out.1 (by omega) (H.out.2.2.1.below H5.out.2.1)).mono ?_
    rintro e w' ⟨rfl, rfl⟩
    rw [← HV.out.2.2.2.2]
    have hne : ((k : Int) == 0) = false := by simp; omega
    go_wp2_with fail
    clear hne
    refine (rshapley_ok ad n cap c _ H.out.1 HV.out.1 (H.out.2.2.1.below H5.out.2.1)).mono ?_
    rintro e w6 ⟨A6, c6, rfl, hown, hb6⟩
    have hF : Fracs w6 A6 (shapL c (plr c)) := At.of_own hown
    rw [← HV.out.2.2.2.2] at hF ⊢
    have H6 := Lib.hid (And.intro hF (And.intro (H5.out.2.1.trans (hb6.mono H5.out.2.1.size)) (And.intro (H5.out.2.2.trans (hb6.mono H5.out.2.2.size)) (H5.out.1.below hb6))))
    clear hown hF hb6
    go_wp2_with fail
    refine (equalF_any A5 A6 k k c5 c6 (shapL c k) (shapL c k) _ (shapL_length c k) (shapL_length c k) (by omega) H6.out.2.2.2 H6.out.1).mono ?_
    rintro e w7 ⟨rfl, nd, rfl⟩
    have he : eqB (shapL c k) (shapL c k) = true := by simp [eqB]
    rw [he]
    clear he
    have H7 := Lib.hid (And.intro (below_drewN H6.out.2.1 nd) (below_drewN H6.out.2.2.1 nd))
    go_wp2_with fail
    refine (awake_any _).mono ?_
    rintro e w8 ⟨rfl, hb8⟩
    have H8 := Lib.hid (And.intro (H7.out.1.trans (hb8.mono H7.out.1.size)) (H7.out.2.trans (hb8.mono H7.out.2.size)))
    clear hb8
    go_wp2_with fail
    refine (risorder_any O m capo l k _ H.out.2.1 (by omega) hk4.2 (H.out.2.2.2.below H8.out.1)).mono ?_
    rintro e w' ⟨rfl, rfl⟩
    rcases HVV.out with ⟨_, hor, hv3, rfl⟩ | ⟨_, hor, g, hv3, rfl, hbj⟩
    · injection hv3 with e1 e2 e3
      subst e1; subst e2
      rw [hor]
      clear hor e3
      go_wp2_with fail
      go_ret
      exact ⟨rfl, H8.out.1⟩
    · injection hv3 with e1 e2 e3
      subst e1; subst e2
      rw [hor]
      have hll : l.length = n3 ∧ ∀ x ∈ l, 0 ≤ x ∧ x < n3 := by
        unfold ordR at hor; rw [Bool.and_eq_true, decide_eq_true_eq] at hor; exact ⟨hor.2, ordRgo_mem hor.1⟩
      obtain ⟨os, hos, hon⟩ := nats_of hll.2
      have hO : ∃ ao, O = some ao := by obtain ⟨ao, h, _⟩ := H.out.2.2.2.some_ (by rw [hll.1]; omega); exact ⟨ao, h⟩
      obtain ⟨ao, rfl⟩ := hO
      obtain rfl : m = n3 := by rw [← H.out.2.1]; exact hll.1
      have hJ : Ints w8 (some ⟨g, 0, none⟩) (joinZ c l) := (blk_ints hbj).below H8.out.2
      have hjl : (joinZ c l).length = m := by
        unfold joinZ
        rw [toNat_of os hos]
        have := (joinP_bd c m os hon).2
        have ho2 : os.length = m := by have := hll.1; rw [hos] at this; simpa using this
        rw [joinL, ho2]; exact this
      have HO := Lib.hid (And.intro hll.1 (And.intro hos (And.intro hon (And.intro hJ hjl))))
      clear hor hll hos hon hbj hJ hjl e3
      go_wp2_with fail
      have hcI := H.out.2.2.1.below H8.out.1
      have hlI := H.out.2.2.2.below H8.out.1
      refine (rjoin_any ao ad n cap m capo c os _ hk4.2 (by rw [← H.out.1]; exact HV.out.2.2.2.1.1) H.out.1 (by have := HO.out.1; rw [HO.out.2.1] at this; simpa using this)
        (fun i x hi => hcI.some2 i _ (by simp [hi])) (fun i x hi => hlI.some2 i _ (by rw [HO.out.2.1]; simp [hi])) HO.out.2.2.1 (valC_iff.1 HV.out.1).2.2).mono ?_
      rintro e w9 ⟨rfl, hJ9, hb9⟩
      have hJ9' : Ints w9 (some ⟨w8.heap.size, 0, none⟩) (joinZ c l) := by unfold joinZ; rw [toNat_of os HO.out.2.1]; exact blk_ints hJ9
      have H9 := Lib.hid (And.intro hJ9' (And.intro (HO.out.2.2.2.1.below hb9) (H8.out.1.trans (hb9.mono H8.out.1.size))))
      clear hJ9 hJ9' hb9 hcI hlI
      go_wp2_with fail
      refine (equal_any _ _ m m m m (joinZ c l) (joinZ c l) _ HO.out.2.2.2.2 HO.out.2.2.2.2 (by omega) H9.out.2.1 H9.out.1).mono ?_
      rintro e w10 ⟨rfl, nd2, rfl⟩
      have he : eqB (joinZ c l) (joinZ c l) = true := by simp [eqB]
      rw [he]
      clear he
      go_wp2_with fail
      go_ret
      exact ⟨rfl, below_drewN H9.out.2.2 _⟩

theorem law_shapley_row (A : Option Addr) (n cap : Nat) (c : List Int) (O : Option Addr) (m capo : Nat) (l : List Int) (w : World) (hl : c.length = n) (hcp : n ≤ cap) (hm : cap ≤ 9223372036854775807) (hc : Ints w A c) (_ : ∀ x ∈ c, -9223372036854775808 ≤ x ∧ x ≤ 9223372036854775807)
    (hlo : l.length = m) (hmo : m ≤ capo) (hco : capo ≤ 9223372036854775807) (ho : Ints w O l) (_ : ∀ x ∈ l, -9223372036854775808 ≤ x ∧ x ≤ 9223372036854775807) :
    Calls Try.prog 5 #[.slice A n cap, .slice O m capo] w fun e w' => e = .returned (.bool true) ∧ Below w.heap.size w w' :=
  law_shapley A n cap O m capo c l w hl hcp hm hlo hmo hco hc ho

/- Contracts: Concave of package games and of its reference. -/

def conc3 (c : List Int) : Value := .tuple #[.int .i64 ((concL c).1 : Nat), .int .i64 ((concL c).2.1 : Nat), .int .i64 ((concL c).2.2 : Nat)]

set_option maxHeartbeats 1600000 in
theorem rconcave_ok (ad : Addr) (N cap : Nat) (c : List Int) (w : World) (hl : c.length = N) (hv : valC c = true) (hc : ∀ i x, c[i]? = some x → w.cell? (ad.add i) = some (.int .i64 x)) :
    Calls Try.prog 27 #[.slice (some ad) N cap] w fun e w' => e = .returned (conc3 c) ∧ Below w.heap.size w w' := by
  have hN : 2 ≤ N ∧ N ≤ 16 := by have := (valC_iff.1 hv).1; omega
  have H := Lib.hid (And.intro hl (And.intro hv hc))
  have hbw : Below w.heap.size w w := Below.refl _ _
  clear hl hv hc
  go_enter Try.func27, Try.ntmps27
  go_wp2
  go_loopw [9] (fun iv wr => ∃ a : Nat, a ≤ N ∧ iv = .int .i64 a ∧ noneTo c (a * c.length) ∧ ∃ m, wr = w.drewN m) (fun iv _ => N - (intOf iv).toNat)
  case atStart => exact ⟨0, Nat.zero_le _, rfl, by rw [Nat.zero_mul]; exact noneTo_zero c, 0, rfl⟩
  case round =>
    obtain ⟨a, ha, rfl, hno, m, rfl⟩ := hrel
    have HNO := Lib.hid hno
    clear hno
    by_cases hlta : a < N
    · go_wp2
      go_loopw [14] (fun iv wr => ∃ b : Nat, b ≤ N ∧ iv = .int .i64 b ∧ noneTo c (a * c.length + b) ∧ ∃ m, wr = w.drewN m) (fun iv _ => N - (intOf iv).toNat)
      case atStart => exact ⟨0, Nat.zero_le _, rfl, HNO.out, m, rfl⟩
      case round =>
        obtain ⟨b, hb, rfl, hno, m', rfl⟩ := hrel
        obtain ⟨hl, hv, hc⟩ := H.out
        by_cases hltb : b < N
        · obtain ⟨hp, hp1, hp4⟩ := valC_pow hv
          have hcb := (valC_iff.1 hv).2.2
          have hor : a ||| b < N := by rw [← hl, hp]; exact Nat.or_lt_two_pow (by rw [← hp, hl]; exact hlta) (by rw [← hp, hl]; exact hltb)
          have hand : a &&& b < N := and_lt hlta
          have hN16 : N ≤ 16 := by
            have := (valC_iff.1 hv).1; omega
          obtain ⟨s1, hs1⟩ : ∃ s, s = a ||| b := ⟨_, rfl⟩
          obtain ⟨s2, hs2⟩ : ∃ s, s = a &&& b := ⟨_, rfl⟩
          have e1 := or_nat a b (by omega) (by omega)
          have e2 := and_nat a b (by omega) (by omega)
          rw [← hs1] at e1 hor
          rw [← hs2] at e2 hand
          obtain ⟨y1, hy1⟩ : ∃ y, c[s1]? = some y := ⟨_, List.getElem?_eq_getElem (by omega)⟩
          obtain ⟨y2, hy2⟩ : ∃ y, c[s2]? = some y := ⟨_, List.getElem?_eq_getElem (by omega)⟩
          obtain ⟨y3, hy3⟩ : ∃ y, c[a]? = some y := ⟨_, List.getElem?_eq_getElem (by omega)⟩
          obtain ⟨y4, hy4⟩ : ∃ y, c[b]? = some y := ⟨_, List.getElem?_eq_getElem (by omega)⟩
          have b1 := hcb y1 (List.mem_of_getElem? hy1)
          have b2 := hcb y2 (List.mem_of_getElem? hy2)
          have b3 := hcb y3 (List.mem_of_getElem? hy3)
          have b4 := hcb y4 (List.mem_of_getElem? hy4)
          have c1 := hc _ _ hy1
          have c2 := hc _ _ hy2
          have c3 := hc _ _ hy3
          have c4 := hc _ _ hy4
          have hbad : badB c a b = decide (y3 + y4 < y1 + y2) := by
            unfold badB
            rw [← hs1, ← hs2, List.getD_eq_getElem?_getD, List.getD_eq_getElem?_getD, List.getD_eq_getElem?_getD, List.getD_eq_getElem?_getD, hy1, hy2, hy3, hy4]; rfl
          have HB := Lib.hid (And.intro hno (And.intro hbad hl))
          have b12 : 0 ≤ y1 ∧ y1 ≤ 1000 ∧ 0 ≤ y2 ∧ y2 ≤ 1000 ∧ 0 ≤ y3 ∧ y3 ≤ 1000 ∧ 0 ≤ y4 ∧ y4 ≤ 1000 := by omega
          have w1 : IntKind.i64.wrap (y1 + y2) = y1 + y2 := IntWalk.i64_in _ (by omega)
          have w2 : IntKind.i64.wrap (y3 + y4) = y3 + y4 := IntWalk.i64_in _ (by omega)
          clear hno hbad hy1 hy2 hy3 hy4 hs1 hs2 hl hv hc hp hp1 hp4 hcb
          by_cases hlt : y3 + y4 < y1 + y2
          · have hd : decide (y3 + y4 < y1 + y2) = true := by simpa using hlt
            go_wp2
            go_quiet (fail)
            go_wp2
            go_ret3
            refine ⟨?_, by first | exact hbw | exact below_drewN (below_drewN hbw _) _ | exact below_drewN hbw _⟩
            unfold conc3
            rw [concL_hit HB.out.1 (by rw [HB.out.2.2]; exact hlta) (by rw [HB.out.2.2]; exact hltb) (by rw [HB.out.2.1]; exact hd)]
            rfl
          · have hd : decide (y3 + y4 < y1 + y2) = false := by simpa using hlt
            go_wp2
            go_quiet (fail)
            go_wp2
            go_roundw
            case rel => exact ⟨b + 1, by omega, by go_num, noneTo_succ HB.out.1 (by rw [HB.out.2.2]; exact hltb) (by rw [HB.out.2.1]; exact hd), _, rfl⟩
            case measure => simp [intOf]; omega
        · obtain rfl : b = N := by omega
          have HB := Lib.hid (And.intro hno hl)
          clear hno hl hv hc
          go_wp2
          go_roundw
          case rel => exact ⟨a + 1, by omega, by go_num, noneTo_row (by rw [HB.out.2]; rw [← HB.out.2]; have := HB.out.1; rwa [← HB.out.2] at this), m', rfl⟩
          case measure => simp [intOf]; omega
    · obtain rfl : a = N := by omega
      obtain ⟨hl, hv, hc⟩ := H.out
      have HE : Hid (concL c = (0, 0, 4)) := Lib.hid (concL_miss (by have := HNO.out; rwa [← hl] at this))
      clear hl hv hc
      go_wp2
      go_ret3
      refine ⟨?_, by first | exact hbw | exact below_drewN (below_drewN hbw _) _ | exact below_drewN hbw _⟩
      unfold conc3
      rw [HE.out]; rfl

set_option maxHeartbeats 1600000 in
theorem gconcave_ok (ad : Addr) (N cap : Nat) (c : List Int) (w : World) (hl : c.length = N) (hv : valC c = true) (hc : ∀ i x, c[i]? = some x → w.cell? (ad.add i) = some (.int .i64 x)) :
    Calls Try.prog 26 #[.slice (some ad) N cap] w fun e w' => e = .returned (conc3 c) ∧ Below w.heap.size w w' := by
  have hN : 2 ≤ N ∧ N ≤ 16 := by have := (valC_iff.1 hv).1; omega
  have H0 := Lib.hid (And.intro hl (And.intro hv hc))
  clear hl hv hc
  go_enter Try.func26, Try.ntmps26
  go_wp2_with fail
  refine (valid_any (some ad) N cap c _ H0.out.1 (by omega) (Ints.mk_ H0.out.2.2)).mono ?_
  rintro e W ⟨rfl, hbw⟩
  rw [H0.out.2.1]
  have H := Lib.hid (And.intro H0.out.1 (And.intro H0.out.2.1 (fun i x hx => ((hbw.cell (lt_of_cell (H0.out.2.2 i x hx))).trans (H0.out.2.2 i x hx)))))
  have HBW := Lib.hid hbw
  clear hbw
  go_wp2
  go_loopw [12] (fun iv wr => ∃ a : Nat, a ≤ N ∧ iv = .int .i64 a ∧ noneTo c (a * c.length) ∧ ∃ m, wr = W.drewN m) (fun iv _ => N - (intOf iv).toNat)
  case atStart => exact ⟨0, Nat.zero_le _, rfl, by rw [Nat.zero_mul]; exact noneTo_zero c, 0, rfl⟩
  case round =>
    obtain ⟨a, ha, rfl, hno, m, rfl⟩ := hrel
    have HNO := Lib.hid hno
    clear hno
    by_cases hlta : a < N
    · go_wp2
      go_loopw [17] (fun iv wr => ∃ b : Nat, b ≤ N ∧ iv = .int .i64 b ∧ noneTo c (a * c.length + b) ∧ ∃ m, wr = W.drewN m) (fun iv _ => N - (intOf iv).toNat)
      case atStart => exact ⟨0, Nat.zero_le _, rfl, HNO.out, m, rfl⟩
      case round =>
        obtain ⟨b, hb, rfl, hno, m', rfl⟩ := hrel
        obtain ⟨hl, hv, hc⟩ := H.out
        by_cases hltb : b < N
        · obtain ⟨hp, hp1, hp4⟩ := valC_pow hv
          have hcb := (valC_iff.1 hv).2.2
          have hor : a ||| b < N := by rw [← hl, hp]; exact Nat.or_lt_two_pow (by rw [← hp, hl]; exact hlta) (by rw [← hp, hl]; exact hltb)
          have hand : a &&& b < N := and_lt hlta
          have hN16 : N ≤ 16 := by
            have := (valC_iff.1 hv).1; omega
          obtain ⟨s1, hs1⟩ : ∃ s, s = a ||| b := ⟨_, rfl⟩
          obtain ⟨s2, hs2⟩ : ∃ s, s = a &&& b := ⟨_, rfl⟩
          have e1 := or_nat a b (by omega) (by omega)
          have e2 := and_nat a b (by omega) (by omega)
          rw [← hs1] at e1 hor
          rw [← hs2] at e2 hand
          obtain ⟨y1, hy1⟩ : ∃ y, c[s1]? = some y := ⟨_, List.getElem?_eq_getElem (by omega)⟩
          obtain ⟨y2, hy2⟩ : ∃ y, c[s2]? = some y := ⟨_, List.getElem?_eq_getElem (by omega)⟩
          obtain ⟨y3, hy3⟩ : ∃ y, c[a]? = some y := ⟨_, List.getElem?_eq_getElem (by omega)⟩
          obtain ⟨y4, hy4⟩ : ∃ y, c[b]? = some y := ⟨_, List.getElem?_eq_getElem (by omega)⟩
          have b1 := hcb y1 (List.mem_of_getElem? hy1)
          have b2 := hcb y2 (List.mem_of_getElem? hy2)
          have b3 := hcb y3 (List.mem_of_getElem? hy3)
          have b4 := hcb y4 (List.mem_of_getElem? hy4)
          have c1 := hc _ _ hy1
          have c2 := hc _ _ hy2
          have c3 := hc _ _ hy3
          have c4 := hc _ _ hy4
          have hbad : badB c a b = decide (y3 + y4 < y1 + y2) := by
            unfold badB
            rw [← hs1, ← hs2, List.getD_eq_getElem?_getD, List.getD_eq_getElem?_getD, List.getD_eq_getElem?_getD, List.getD_eq_getElem?_getD, hy1, hy2, hy3, hy4]; rfl
          have HB := Lib.hid (And.intro hno (And.intro hbad hl))
          have b12 : 0 ≤ y1 ∧ y1 ≤ 1000 ∧ 0 ≤ y2 ∧ y2 ≤ 1000 ∧ 0 ≤ y3 ∧ y3 ≤ 1000 ∧ 0 ≤ y4 ∧ y4 ≤ 1000 := by omega
          have w1 : IntKind.i64.wrap (y1 + y2) = y1 + y2 := IntWalk.i64_in _ (by omega)
          have w2 : IntKind.i64.wrap (y3 + y4) = y3 + y4 := IntWalk.i64_in _ (by omega)
          clear hno hbad hy1 hy2 hy3 hy4 hs1 hs2 hl hv hc hp hp1 hp4 hcb
          by_cases hlt : y3 + y4 < y1 + y2
          · have hd : decide (y3 + y4 < y1 + y2) = true := by simpa using hlt
            go_wp2
            go_quiet (fail)
            go_wp2
            go_ret3
            refine ⟨?_, by first | exact HBW.out | exact below_drewN (below_drewN HBW.out _) _ | exact below_drewN HBW.out _⟩
            unfold conc3
            rw [concL_hit HB.out.1 (by rw [HB.out.2.2]; exact hlta) (by rw [HB.out.2.2]; exact hltb) (by rw [HB.out.2.1]; exact hd)]
            rfl
          · have hd : decide (y3 + y4 < y1 + y2) = false := by simpa using hlt
            go_wp2
            go_quiet (fail)
            go_wp2
            go_roundw
            case rel => exact ⟨b + 1, by omega, by go_num, noneTo_succ HB.out.1 (by rw [HB.out.2.2]; exact hltb) (by rw [HB.out.2.1]; exact hd), _, rfl⟩
            case measure => simp [intOf]; omega
        · obtain rfl : b = N := by omega
          have HB := Lib.hid (And.intro hno hl)
          clear hno hl hv hc
          go_wp2
          go_roundw
          case rel => exact ⟨a + 1, by omega, by go_num, noneTo_row (by rw [HB.out.2]; rw [← HB.out.2]; have := HB.out.1; rwa [← HB.out.2] at this), m', rfl⟩
          case measure => simp [intOf]; omega
    · obtain rfl : a = N := by omega
      obtain ⟨hl, hv, hc⟩ := H.out
      have HE : Hid (concL c = (0, 0, 4)) := Lib.hid (concL_miss (by have := HNO.out; rwa [← hl] at this))
      clear hl hv hc
      go_wp2
      go_ret3
      refine ⟨?_, by first | exact HBW.out | exact below_drewN (below_drewN HBW.out _) _ | exact below_drewN HBW.out _⟩
      unfold conc3
      rw [HE.out]; rfl

theorem gconcave_bad (A : Option Addr) (n cap : Nat) (xs : List Int) (w : World) (hl : xs.length = n) (hm : n ≤ 9223372036854775807) (h : Ints w A xs) (hv : valC xs = false) :
    Calls Try.prog 26 #[.slice A n cap] w fun e w' => e = .returned (.tuple #[.int .i64 0, .int .i64 0, .int .i64 2]) ∧ Below w.heap.size w w' := by
  have HI := Lib.hid h
  have HL := Lib.hid hl
  have HV := Lib.hid hv
  clear hl hv h
  go_enter Try.func26, Try.ntmps26
  go_wp2_with fail
  refine (valid_any A n cap xs _ HL.out hm HI.out).mono ?_
  rintro e w1 ⟨rfl, hb⟩
  rw [HV.out]
  have HB := Lib.hid hb
  clear hb
  go_wp2
  go_ret3
  exact ⟨rfl, HB.out⟩

/- GamesConcave returns true for every slice of costs: the walk. -/

set_option maxHeartbeats 1600000 in
theorem law_concave (A : Option Addr) (n cap : Nat) (xs : List Int) (w : World) (hl : xs.length = n) (hc : n ≤ cap) (hm : cap ≤ 9223372036854775807) (h : Ints w A xs) :
    Calls Try.prog 4 #[.slice A n cap] w fun e w' => e = .returned (.bool true) ∧ Below w.heap.size w w' := by
  have H := Lib.hid (And.intro hl h)
  clear hl h
  go_enter Try.func4, Try.ntmps4
  go_wp2_with fail
  refine (list_any A n cap xs _ H.out.1 hc hm H.out.2).mono ?_
  rintro e w1 ⟨A1, c1, rfl, hown, hb⟩
  have hI : Ints w1 A1 (xs.take 18) := At.of_own hown
  have hlt : (xs.take 18).length = min n 18 := by rw [List.length_take, H.out.1]; omega
  have H1 := Lib.hid (And.intro hI (And.intro hb hlt))
  clear hown hb hI hlt
  go_wp2_with fail
  cases hv : valC xs
  · have hv' : valC (xs.take 18) = false := by rw [valC_take]; exact hv
    have HV := Lib.hid (And.intro hv hv')
    clear hv hv'
    refine (gconcave_bad A1 (min n 18) c1 (xs.take 18) _ H1.out.2.2 (by omega) H1.out.1 HV.out.2).mono ?_
    rintro e w2 ⟨rfl, hb2⟩
    have hbl : Below w.heap.size w w2 := H1.out.2.1.trans (hb2.mono H1.out.2.1.size)
    have HB := Lib.hid hbl
    clear hb2 hbl
    go_wp2_with fail
    refine (rplayers_any A n cap xs _ H.out.1 (by omega) (H.out.2.below HB.out)).mono ?_
    rintro e w' ⟨rfl, rfl⟩
    rw [plr_bad HV.out.1]
    go_wp2_with fail
    refine (awake_any _).mono ?_
    rintro e w3 ⟨rfl, hb3⟩
    have HB3 := Lib.hid (HB.out.trans (hb3.mono HB.out.size))
    clear hb3
    go_wp2
    go_ret
    exact ⟨rfl, HB3.out⟩
  · have hv' : valC (xs.take 18) = true := by rw [valC_take]; exact hv
    have hlen := (valC_iff.1 hv).1
    have hx : xs.take 18 = xs := take18 (by omega)
    have hn : min n 18 = n := by have := H.out.1; omega
    have hp := valC_pow hv
    have HV := Lib.hid (And.intro hv (And.intro hx (And.intro hn (And.intro hlen hp))))
    obtain ⟨ad1, rfl, _, hc1⟩ := H1.out.1.some_ (by rw [hx]; omega)
    obtain ⟨ad, hA, _, hc0⟩ := H.out.2.some_ (by omega)
    rw [hx] at hc1
    have HC := Lib.hid (And.intro hc1 (And.intro hA hc0))
    clear hv hv' hx hlen hc1 hc0 hA hp
    rw [hn]
    clear hn
    refine (gconcave_ok ad1 n c1 xs _ H.out.1 HV.out.1 HC.out.1).mono ?_
    rintro e w2 ⟨rfl, hb2⟩
    have hbl : Below w.heap.size w w2 := H1.out.2.1.trans (hb2.mono H1.out.2.1.size)
    have HB := Lib.hid hbl
    clear hb2 hbl
    unfold conc3
    go_wp2_with fail
    refine (rplayers_any A n cap xs _ H.out.1 (by omega) (H.out.2.below HB.out)).mono ?_
    rintro e w' ⟨rfl, rfl⟩
    have hne : (((plr xs : Nat) : Int) == 0) = false := by have := HV.out.2.2.2.2.2.1; simp; omega
    go_wp2_with fail
    clear hne
    rw [HC.out.2.1]
    refine (rconcave_ok ad n cap xs _ H.out.1 HV.out.1 (fun i x hi => (HB.out.cell (lt_of_cell (HC.out.2.2 i x hi))).trans (HC.out.2.2 i x hi))).mono ?_
    rintro e w3 ⟨rfl, hb3⟩
    have HB3 := Lib.hid (HB.out.trans (hb3.mono HB.out.size))
    clear hb3
    unfold conc3
    go_wp2_with fail
    refine (awake_any _).mono ?_
    rintro e w4 ⟨rfl, hb4⟩
    have HB4 := Lib.hid (HB3.out.trans (hb4.mono HB3.out.size))
    clear hb4
    go_wp2
    go_ret
    exact ⟨rfl, HB4.out⟩

/- Inequalities that nothing fulfils: a sum of them says so. Plain Lean. -/

inductive Der (L : List ((Nat → Rat) × Rat)) : (Nat → Rat) → Rat → Prop
  | mem (p : (Nat → Rat) × Rat) : p ∈ L → Der L p.1 p.2
  | add {a a' : Nat → Rat} {b b' : Rat} : Der L a b → Der L a' b' → Der L (fun j => a j + a' j) (b + b')
  | mul {a : Nat → Rat} {b : Rat} (t : Rat) : 0 ≤ t → Der L a b → Der L (fun j => t * a j) (t * b)
/-- The left side. -/
def lhs (a x : Nat → Rat) (n : Nat) : Rat := sumQ (fun j => a j * x j) n
theorem min_at {β : Type} (f : β → Rat) : ∀ L : List β, L ≠ [] → ∃ a ∈ L, ∀ b ∈ L, f a ≤ f b := by
  intro L
  induction L with
  | nil => intro h; exact absurd rfl h
  | cons a L ih =>
    intro _
    by_cases e : L = []
    · subst e
      exact ⟨a, List.mem_cons_self .., fun b hb => by rw [List.mem_singleton.1 hb]; exact Rat.le_refl⟩
    · obtain ⟨m, hm, hmin⟩ := ih e
      by_cases h : f a ≤ f m
      · refine ⟨a, List.mem_cons_self .., fun b hb => ?_⟩
        rcases List.mem_cons.1 hb with rfl | hb
        · exact Rat.le_refl
        · exact Rat.le_trans h (hmin b hb)
      · refine ⟨m, List.mem_cons_of_mem _ hm, fun b hb => ?_⟩
        rcases List.mem_cons.1 hb with rfl | hb
        · grind
        · exact hmin b hb
theorem fm_le {P Q p2 q2 lp lq ip iq : Rat} (hp : P * ip = 1) (hq : Q * iq = 1) (h1 : 0 ≤ ip) (h2 : 0 ≤ iq) (h : Q * lp + P * lq ≤ Q * p2 + P * q2) : (lq - q2) * iq ≤ (p2 - lp) * ip := by
  have h3 : 0 ≤ ((Q * p2 + P * q2) - (Q * lp + P * lq)) * (ip * iq) := Rat.mul_nonneg (by grind) (Rat.mul_nonneg h1 h2)
  have e : ((Q * p2 + P * q2) - (Q * lp + P * lq)) * (ip * iq) = (p2 - lp) * ip - (lq - q2) * iq := by grind
  rw [e] at h3
  generalize (p2 - lp) * ip = u at h3 ⊢
  generalize (lq - q2) * iq = v at h3 ⊢
  grind
theorem fm_up {P ip t r : Rat} (e1 : P * ip = 1) (h : t * P ≤ r * ip * P) : P * t ≤ r := by
  have e : r * ip * P = r := by grind
  rw [e, Rat.mul_comm] at h
  exact h
theorem fm_down {P ip t r : Rat} (e1 : P * ip = 1) (h : r * ip * P ≤ t * P) : r ≤ P * t := by
  have e : r * ip * P = r := by grind
  rw [e, Rat.mul_comm t] at h
  exact h
/-- Two inequalities without the last unknown. -/
def mix (n : Nat) (p q : (Nat → Rat) × Rat) : (Nat → Rat) × Rat := (fun j => -(q.1 n) * p.1 j + p.1 n * q.1 j, -(q.1 n) * p.2 + p.1 n * q.2)
def less1 (n : Nat) (L : List ((Nat → Rat) × Rat)) : List ((Nat → Rat) × Rat) := L.filter (fun p => decide (p.1 n = 0)) ++ (L.filter fun p => decide (0 < p.1 n)).flatMap fun p => (L.filter fun q => decide (q.1 n < 0)).map (mix n p)
theorem less1_mem {n : Nat} {L : List ((Nat → Rat) × Rat)} {r : (Nat → Rat) × Rat} : r ∈ less1 n L ↔ (r ∈ L ∧ r.1 n = 0) ∨ ∃ p q, p ∈ L ∧ 0 < p.1 n ∧ q ∈ L ∧ q.1 n < 0 ∧ r = mix n p q := by
  unfold less1
  rw [List.mem_append, List.mem_filter, List.mem_flatMap]
  simp only [decide_eq_true_eq, List.mem_filter, List.mem_map]
  constructor
  · rintro (h | ⟨p, ⟨h1, h2⟩, q, ⟨h3, h4⟩, rfl⟩)
    · exact .inl h
    · exact .inr ⟨p, q, h1, h2, h3, h4, rfl⟩
  · rintro (h | ⟨p, q, h1, h2, h3, h4, rfl⟩)
    · exact .inl h
    · exact .inr ⟨p, ⟨h1, h2⟩, q, ⟨h3, h4⟩, rfl⟩
theorem less1_der {n : Nat} {L : List ((Nat → Rat) × Rat)} {a : Nat → Rat} {b : Rat} (h : Der (less1 n L) a b) : Der L a b ∧ a n = 0 := by
  induction h with
  | mem r hr =>
    rcases less1_mem.1 hr with ⟨h1, h2⟩ | ⟨p, q, h1, h2, h3, h4, rfl⟩
    · exact ⟨.mem r h1, h2⟩
    · refine ⟨.add (.mul _ (by grind) (.mem p h1)) (.mul _ (Rat.le_of_lt h2) (.mem q h3)), ?_⟩
      unfold mix
      grind
  | add _ _ ih1 ih2 => exact ⟨.add ih1.1 ih2.1, by dsimp only; rw [ih1.2, ih2.2]; grind⟩
  | mul t ht _ ih => exact ⟨.mul t ht ih.1, by dsimp only; rw [ih.2]; grind⟩
theorem farkas : ∀ (n : Nat) (L : List ((Nat → Rat) × Rat)), (∃ x, ∀ p ∈ L, lhs p.1 x n ≤ p.2) ∨ ∃ a b, Der L a b ∧ (∀ j, j < n → a j = 0) ∧ b < 0 := by
  intro n
  induction n with
  | zero =>
    intro L
    by_cases h : ∀ p ∈ L, 0 ≤ p.2
    · exact .inl ⟨fun _ => 0, fun p hp => h p hp⟩
    · have : ∃ p, p ∈ L ∧ ¬ 0 ≤ p.2 := Classical.byContradiction fun hno => h fun p hp => Classical.byContradiction fun h2 => hno ⟨p, hp, h2⟩
      obtain ⟨p, hp, hn⟩ := this
      exact .inr ⟨_, _, .mem p hp, fun j hj => by omega, by grind⟩
  | succ n ih =>
    intro L
    rcases ih (less1 n L) with ⟨x, hx⟩ | ⟨a, b, h1, h2, h3⟩
    · refine .inl ?_
      have hbd : ∀ p q, p ∈ L → 0 < p.1 n → q ∈ L → q.1 n < 0 → (lhs q.1 x n - q.2) * (-(q.1 n))⁻¹ ≤ (p.2 - lhs p.1 x n) * (p.1 n)⁻¹ := by
        intro p q hp hp0 hq hq0
        have h := hx _ (less1_mem.2 (.inr ⟨p, q, hp, hp0, hq, hq0, rfl⟩))
        have e : lhs (mix n p q).1 x n = -(q.1 n) * lhs p.1 x n + p.1 n * lhs q.1 x n := by
          unfold lhs mix
          rw [← sumQ_mul, ← sumQ_mul, ← sumQ_add]
          exact sumQ_congr fun j _ => by grind
        rw [e] at h
        unfold mix at h
        have hq1 : 0 < -(q.1 n) := by grind
        have i1 := Rat.inv_pos.2 hp0
        have i2 := Rat.inv_pos.2 hq1
        have e1 : p.1 n * (p.1 n)⁻¹ = 1 := Rat.mul_inv_cancel _ (by grind)
        have e2 : -(q.1 n) * (-(q.1 n))⁻¹ = 1 := Rat.mul_inv_cancel _ (by grind)
        exact fm_le e1 e2 (Rat.le_of_lt i1) (Rat.le_of_lt i2) h
      have ht : ∃ t : Rat, (∀ p ∈ L, 0 < p.1 n → t ≤ (p.2 - lhs p.1 x n) * (p.1 n)⁻¹) ∧ ∀ q ∈ L, q.1 n < 0 → (lhs q.1 x n - q.2) * (-(q.1 n))⁻¹ ≤ t := by
        by_cases e : L.filter (fun p => decide (0 < p.1 n)) = []
        · have hnp : ∀ p ∈ L, ¬ 0 < p.1 n := by
            intro p hp h
            have := List.filter_eq_nil_iff.1 e p hp
            simp [h] at this
          by_cases e2 : L = []
          · exact ⟨0, (fun p hp => by rw [e2] at hp; cases hp), fun p hp => by rw [e2] at hp; cases hp⟩
          · obtain ⟨m, hm, hmin⟩ := min_at (fun q : (Nat → Rat) × Rat => -((lhs q.1 x n - q.2) * (-(q.1 n))⁻¹)) L e2
            exact ⟨(lhs m.1 x n - m.2) * (-(m.1 n))⁻¹, fun p hp h => absurd h (hnp p hp), fun q hq _ => by have := hmin q hq; grind⟩
        · obtain ⟨m, hm, hmin⟩ := min_at (fun p : (Nat → Rat) × Rat => (p.2 - lhs p.1 x n) * (p.1 n)⁻¹) _ e
          rw [List.mem_filter, decide_eq_true_eq] at hm
          exact ⟨(m.2 - lhs m.1 x n) * (m.1 n)⁻¹, fun p hp h => hmin p (List.mem_filter.2 ⟨hp, decide_eq_true h⟩), fun q hq h => hbd m q hm.1 hm.2 hq h⟩
      obtain ⟨t, ht1, ht2⟩ := ht
      refine ⟨fun j => if j < n then x j else t, fun p hp => ?_⟩
      have e : lhs p.1 (fun j => if j < n then x j else t) (n + 1) = lhs p.1 x n + p.1 n * t := by
        unfold lhs
        rw [sumQ]
        congr 1
        · exact sumQ_congr fun j hj => by dsimp only; rw [if_pos hj]
        · dsimp only; rw [if_neg (by omega)]
      rw [e]
      by_cases c1 : 0 < p.1 n
      · have h1 := Rat.mul_le_mul_of_nonneg_right (ht1 p hp c1) (Rat.le_of_lt c1)
        have e1 : p.1 n * (p.1 n)⁻¹ = 1 := Rat.mul_inv_cancel _ (by grind)
        have h2 := fm_up e1 h1
        generalize p.1 n * t = u at h2 ⊢
        grind
      · by_cases c2 : p.1 n < 0
        · have h1 := Rat.mul_le_mul_of_nonneg_right (ht2 p hp c2) (show 0 ≤ -(p.1 n) by grind)
          have e2 : -(p.1 n) * (-(p.1 n))⁻¹ = 1 := Rat.mul_inv_cancel _ (by grind)
          have h2 := fm_down e2 h1
          rw [Rat.neg_mul] at h2
          generalize p.1 n * t = u at h2 ⊢
          grind
        · have e0 : p.1 n = 0 := by grind
          have := hx p (less1_mem.2 (.inl ⟨hp, e0⟩))
          rw [e0]
          grind
    · have h4 := less1_der h1
      refine .inr ⟨a, b, h4.1, fun j hj => ?_, h3⟩
      by_cases e : j = n
      · rw [e]; exact h4.2
      · exact h2 j (by omega)

/- Where no payments are in the core, sets that stand alone refute the costs. Plain Lean. -/

/-- Shares of sets, all together 1 for each player, that cost less than all together. -/
structure Bal (c : List Int) (n : Nat) (P : List Nat) (m : Nat → Rat) : Prop where
  pos : ∀ s ∈ P, 0 ≤ m s
  one : ∀ i, i < n → colS m P i = 1
  cost : sumL (fun s => m s * cq c s) P < cq c (2 ^ n - 1)
theorem cq_pos {c : List Int} (hcb : ∀ v ∈ c, 0 ≤ v ∧ v ≤ 1000) (s : Nat) : 0 ≤ cq c s := by
  have := costs_get hcb s
  exact (Rat.intCast_le_intCast (a := 0) (b := c.getD s 0)).2 this.1
theorem sumL_nonneg {f : Nat → Rat} {P : List Nat} (h : ∀ s ∈ P, 0 ≤ f s) : 0 ≤ sumL f P := by
  have := sumL_le (f := fun _ => 0) h
  rwa [sumL_zero (fun _ _ => rfl)] at this
theorem sumL_one {f : Nat → Rat} {P : List Nat} {a : Nat} (hd : P.Nodup) (ha : a ∈ P) (h : ∀ s ∈ P, s ≠ a → f s = 0) : sumL f P = f a := by
  rw [sumL_erase f ha, sumL_zero fun s hs => h s (List.mem_of_mem_erase hs) (fun e => by rw [e] at hs; exact hd.not_mem_erase hs)]
  grind
/-- The inequalities of the core. -/
def ineqs (c : List Int) (n : Nat) : List ((Nat → Rat) × Rat) := (fun j => -(bq (2 ^ n - 1) j), -(cq c (2 ^ n - 1))) :: (List.range (2 ^ n)).map fun s => (bq s, cq c s)
theorem der_sum {c : List Int} {n : Nat} {a : Nat → Rat} {b : Rat} (h : Der (ineqs c n) a b) : ∃ (m : Nat → Rat) (t : Rat), (∀ s, 0 ≤ m s) ∧ 0 ≤ t ∧ (∀ j, a j = colS m (List.range (2 ^ n)) j - t * bq (2 ^ n - 1) j) ∧ b = sumL (fun s => m s * cq c s) (List.range (2 ^ n)) - t * cq c (2 ^ n - 1) := by
  induction h with
  | mem p hp =>
    unfold ineqs at hp
    rcases List.mem_cons.1 hp with rfl | hp
    · refine ⟨fun _ => 0, 1, fun _ => Rat.le_refl, by decide, fun j => ?_, ?_⟩
      · dsimp only [colS]
        rw [sumL_zero fun s _ => by grind]; grind
      · dsimp only
        rw [sumL_zero fun s _ => by grind]; grind
    · obtain ⟨s, hs, rfl⟩ := List.mem_map.1 hp
      refine ⟨fun r => if r = s then 1 else 0, 0, fun r => by dsimp only; split <;> decide, Rat.le_refl, fun j => ?_, ?_⟩
      · unfold colS
        dsimp only
        rw [sumL_one (f := fun r => (if r = s then 1 else 0) * bq r j) List.nodup_range hs (fun r _ hne => by rw [if_neg hne]; grind), if_pos rfl]; grind
      · dsimp only
        rw [sumL_one (f := fun r => (if r = s then 1 else 0) * cq c r) List.nodup_range hs (fun r _ hne => by rw [if_neg hne]; grind), if_pos rfl]; grind
  | add _ _ ih1 ih2 =>
    obtain ⟨m, t, h1, h2, h3, h4⟩ := ih1
    obtain ⟨m', t', g1, g2, g3, g4⟩ := ih2
    refine ⟨fun s => m s + m' s, t + t', fun s => by have := h1 s; have := g1 s; dsimp only; grind, by grind, fun j => ?_, ?_⟩
    · have e : colS (fun s => m s + m' s) (List.range (2 ^ n)) j = colS m (List.range (2 ^ n)) j + colS m' (List.range (2 ^ n)) j := by
        unfold colS
        rw [← sumL_add]
        exact sumL_congr fun s _ => by grind
      rw [e]
      have := h3 j
      have := g3 j
      grind
    · have e : sumL (fun s => (m s + m' s) * cq c s) (List.range (2 ^ n)) = sumL (fun s => m s * cq c s) (List.range (2 ^ n)) + sumL (fun s => m' s * cq c s) (List.range (2 ^ n)) := by
        rw [← sumL_add]
        exact sumL_congr fun s _ => by grind
      rw [e]
      grind
  | mul u hu _ ih =>
    obtain ⟨m, t, h1, h2, h3, h4⟩ := ih
    refine ⟨fun s => u * m s, u * t, fun s => Rat.mul_nonneg hu (h1 s), Rat.mul_nonneg hu h2, fun j => ?_, ?_⟩
    · have e : colS (fun s => u * m s) (List.range (2 ^ n)) j = u * colS m (List.range (2 ^ n)) j := by
        unfold colS
        rw [← sumL_mul]
        exact sumL_congr fun s _ => by grind
      rw [e]
      have := h3 j
      grind
    · have e : sumL (fun s => (u * m s) * cq c s) (List.range (2 ^ n)) = u * sumL (fun s => m s * cq c s) (List.range (2 ^ n)) := by
        rw [← sumL_mul]
        exact sumL_congr fun s _ => by grind
      rw [e]
      grind
/-- Either payments are in the core, or sets have shares that refute. -/
theorem either {c : List Int} (n : Nat) (hcb : ∀ v ∈ c, 0 ≤ v ∧ v ≤ 1000) : (∃ x, InC c n x) ∨ ∃ m, Bal c n (List.range' 1 (2 ^ n - 1)) m := by
  have hp2 := Nat.two_pow_pos n
  have hL : ∀ (a x : Nat → Rat), lhs a x n = sumQ (fun j => a j * x j) n := fun _ _ => rfl
  rcases farkas n (ineqs c n) with ⟨x, hx⟩ | ⟨a, b, h1, h2, h3⟩
  · refine .inl ⟨x, ?_⟩
    have hs : ∀ s, s < 2 ^ n → dotS n x s ≤ cq c s := fun s hs => hx (bq s, cq c s) (List.mem_cons_of_mem _ (List.mem_map.2 ⟨s, List.mem_range.2 hs, rfl⟩))
    refine ⟨?_, hs⟩
    have h1 := hs (2 ^ n - 1) (by omega)
    have h2 := hx _ (List.mem_cons_self ..)
    have e : lhs (fun j => -(bq (2 ^ n - 1) j)) x n = -(dotS n x (2 ^ n - 1)) := by
      unfold lhs dotS
      rw [show -(sumQ (fun i => bq (2 ^ n - 1) i * x i) n) = (-1) * sumQ (fun i => bq (2 ^ n - 1) i * x i) n from by grind, ← sumQ_mul]
      exact sumQ_congr fun j _ => by grind
    dsimp only at h2
    rw [e] at h2
    grind
  · refine .inr ?_
    obtain ⟨m, t, g1, g2, g3, g4⟩ := der_sum h1
    have hcost : 0 ≤ sumL (fun s => m s * cq c s) (List.range (2 ^ n)) := sumL_nonneg fun s _ => Rat.mul_nonneg (g1 s) (cq_pos hcb s)
    have htp : 0 < t := by
      by_cases e : t = 0
      · rw [e] at g4; grind
      · grind
    have hti : t * t⁻¹ = 1 := Rat.mul_inv_cancel _ (by grind)
    have hti0 := Rat.le_of_lt (Rat.inv_pos.2 htp)
    have hsplit : ∀ f : Nat → Rat, sumL f (List.range (2 ^ n)) = f 0 + sumL f (List.range' 1 (2 ^ n - 1)) := by
      intro f
      rw [List.range_eq_range', show 2 ^ n = (2 ^ n - 1) + 1 from by omega, List.range'_succ]
      rfl
    refine ⟨fun s => t⁻¹ * m s, fun s _ => Rat.mul_nonneg hti0 (g1 s), fun i hi => ?_, ?_⟩
    · have e := g3 i
      rw [h2 i hi, bq_all hi] at e
      unfold colS at e ⊢
      rw [hsplit, show bq 0 i = 0 from by simp [bq, bitI]] at e
      have e2 : sumL (fun s => t⁻¹ * m s * bq s i) (List.range' 1 (2 ^ n - 1)) = t⁻¹ * sumL (fun s => m s * bq s i) (List.range' 1 (2 ^ n - 1)) := by
        rw [← sumL_mul]
        exact sumL_congr fun s _ => by grind
      rw [e2]
      grind
    · rw [hsplit] at g4
      have e2 : sumL (fun s => t⁻¹ * m s * cq c s) (List.range' 1 (2 ^ n - 1)) = t⁻¹ * sumL (fun s => m s * cq c s) (List.range' 1 (2 ^ n - 1)) := by
        rw [← sumL_mul]
        exact sumL_congr fun s _ => by grind
      rw [e2]
      have h5 := Rat.mul_nonneg (g1 0) (cq_pos hcb 0)
      have h6 : sumL (fun s => m s * cq c s) (List.range' 1 (2 ^ n - 1)) < t * cq c (2 ^ n - 1) := by
        generalize sumL (fun s => m s * cq c s) (List.range' 1 (2 ^ n - 1)) = u at *
        generalize t * cq c (2 ^ n - 1) = v at *
        generalize m 0 * cq c 0 = w at *
        grind
      have h7 := Rat.mul_lt_mul_of_pos_left h6 (Rat.inv_pos.2 htp)
      rw [← Rat.mul_assoc, Rat.mul_comm t⁻¹ t, hti, Rat.one_mul] at h7
      exact h7
/-- No shares but 0 cancel. -/
def Ind (n : Nat) (P : List Nat) : Prop := ∀ m : Nat → Rat, (∀ i, i < n → colS m P i = 0) → ∀ s ∈ P, m s = 0
theorem has_bit {n s : Nat} (h1 : 1 ≤ s) (h2 : s < 2 ^ n) : ∃ i, i < n ∧ bq s i = 1 := by
  apply Classical.byContradiction
  intro h
  have hz : ∀ i, s.testBit i = false := by
    intro i
    cases hb : s.testBit i
    · rfl
    · refine absurd ⟨i, ?_, by unfold bq bitI; rw [hb]; simp⟩ h
      apply Classical.byContradiction
      intro hi
      rw [Nat.testBit_lt_two_pow (Nat.lt_of_lt_of_le h2 (Nat.pow_le_pow_right (by decide) (by omega)))] at hb
      cases hb
  have : s = 0 := Nat.eq_of_testBit_eq fun i => by rw [hz i]; simp
  omega
theorem col_add (m d : Nat → Rat) (t : Rat) (P : List Nat) (i : Nat) : colS (fun s => m s + t * d s) P i = colS m P i + t * colS d P i := by
  unfold colS
  rw [← sumL_mul, ← sumL_add]
  exact sumL_congr fun s _ => by grind
/-- One set less. -/
theorem bal_less {c : List Int} {n : Nat} {P : List Nat} {m : Nat → Rat} (hb : Bal c n P m) (hp : ∀ s ∈ P, 1 ≤ s ∧ s < 2 ^ n) (hi : ¬ Ind n P) : ∃ s m', s ∈ P ∧ Bal c n (P.erase s) m' := by
  obtain ⟨d, hd, hcost, s0, hs0, hne⟩ : ∃ d : Nat → Rat, (∀ i, i < n → colS d P i = 0) ∧ sumL (fun s => d s * cq c s) P ≤ 0 ∧ ∃ s ∈ P, d s ≠ 0 := by
    apply Classical.byContradiction
    intro hno
    apply hi
    intro d hd s hs
    apply Classical.byContradiction
    intro hne
    by_cases h0 : sumL (fun s => d s * cq c s) P ≤ 0
    · exact hno ⟨d, hd, h0, s, hs, hne⟩
    · refine hno ⟨fun s => (-1) * d s, fun i hi => ?_, ?_, s, hs, by dsimp only; grind⟩
      · have e : colS (fun s => (-1) * d s) P i = (-1) * colS d P i := by
          unfold colS
          rw [← sumL_mul]
          exact sumL_congr fun s _ => by grind
        rw [e, hd i hi]; grind
      · have e : sumL (fun s => (-1) * d s * cq c s) P = (-1) * sumL (fun s => d s * cq c s) P := by
          rw [← sumL_mul]
          exact sumL_congr fun s _ => by grind
        rw [e]; grind
  have hneg : ∃ s ∈ P, d s < 0 := by
    apply Classical.byContradiction
    intro hno
    have hnn : ∀ s ∈ P, 0 ≤ d s := fun s hs => by
      apply Classical.byContradiction
      intro h; exact hno ⟨s, hs, by grind⟩
    obtain ⟨i, hi, hb1⟩ := has_bit (hp s0 hs0).1 (hp s0 hs0).2
    have e := hd i hi
    unfold colS at e
    rw [sumL_erase _ hs0, hb1] at e
    have h1 := sumL_nonneg (f := fun s => d s * bq s i) (P := P.erase s0) fun s hs => Rat.mul_nonneg (hnn s (List.mem_of_mem_erase hs)) (by rcases bq_cases s i with h | h <;> rw [h] <;> decide)
    have h2 := hnn s0 hs0
    grind
  obtain ⟨s1, hs1, hd1⟩ := hneg
  obtain ⟨r, hr, hmin⟩ := min_at (fun s => m s * (-(d s))⁻¹) (P.filter fun s => decide (d s < 0)) (List.ne_nil_of_mem (List.mem_filter.2 ⟨hs1, decide_eq_true hd1⟩))
  rw [List.mem_filter, decide_eq_true_eq] at hr
  obtain ⟨t, ht⟩ : ∃ t, t = m r * (-(d r))⁻¹ := ⟨_, rfl⟩
  have hinv : ∀ s, d s < 0 → 0 ≤ (-(d s))⁻¹ ∧ -(d s) * (-(d s))⁻¹ = 1 := fun s hs => ⟨Rat.le_of_lt (Rat.inv_pos.2 (by grind)), Rat.mul_inv_cancel _ (by grind)⟩
  have ht0 : 0 ≤ t := by rw [ht]; exact Rat.mul_nonneg (hb.pos r hr.1) (hinv r hr.2).1
  have hpos : ∀ s ∈ P, 0 ≤ m s + t * d s := by
    intro s hs
    have hm := hb.pos s hs
    by_cases h : d s < 0
    · have h1 := hmin s (List.mem_filter.2 ⟨hs, decide_eq_true h⟩)
      rw [← ht] at h1
      have h2 := Rat.mul_le_mul_of_nonneg_right h1 (show 0 ≤ -(d s) by grind)
      have h3 := fm_up (t := t) (r := m s) (hinv s h).2 h2
      rw [Rat.neg_mul, Rat.mul_comm] at h3
      generalize t * d s = u at h3 ⊢
      grind
    · have h1 := Rat.mul_nonneg ht0 (show 0 ≤ d s by grind)
      generalize t * d s = u at h1 ⊢
      grind
  have hz : m r + t * d r = 0 := by
    have := (hinv r hr.2).2
    rw [ht]; grind
  have hdrop : ∀ f : Nat → Rat, sumL (fun s => (m s + t * d s) * f s) (P.erase r) = sumL (fun s => (m s + t * d s) * f s) P := by
    intro f
    rw [sumL_erase _ hr.1, hz]; grind
  refine ⟨r, fun s => m s + t * d s, hr.1, fun s hs => hpos s (List.mem_of_mem_erase hs), fun i hi => ?_, ?_⟩
  · have e := col_add m d t P i
    rw [hb.one i hi, hd i hi] at e
    unfold colS at e ⊢
    rw [hdrop, e]; grind
  · rw [hdrop]
    have e : sumL (fun s => (m s + t * d s) * cq c s) P = sumL (fun s => m s * cq c s) P + t * sumL (fun s => d s * cq c s) P := by
      rw [← sumL_mul, ← sumL_add]
      exact sumL_congr fun s _ => by grind
    rw [e]
    have h1 := hb.cost
    have h2 := Rat.mul_nonneg ht0 (show 0 ≤ -(sumL (fun s => d s * cq c s) P) by grind)
    rw [Rat.mul_neg] at h2
    generalize t * sumL (fun s => d s * cq c s) P = u at h2 ⊢
    grind
theorem bal_ind {c : List Int} {n : Nat} : ∀ (k : Nat) (P : List Nat) (m : Nat → Rat), P.length ≤ k → P.Nodup → (∀ s ∈ P, 1 ≤ s ∧ s < 2 ^ n) → Bal c n P m → ∃ Q m', Q.Nodup ∧ (∀ s ∈ Q, 1 ≤ s ∧ s < 2 ^ n) ∧ Bal c n Q m' ∧ Ind n Q := by
  intro k
  induction k with
  | zero =>
    intro P m hk hd hp hb
    obtain rfl := List.length_eq_zero_iff.1 (Nat.le_zero.1 hk)
    exact ⟨[], m, hd, hp, hb, fun _ _ s hs => by cases hs⟩
  | succ k ih =>
    intro P m hk hd hp hb
    by_cases hi : Ind n P
    · exact ⟨P, m, hd, hp, hb, hi⟩
    · obtain ⟨s, m', hs, hb'⟩ := bal_less hb hp hi
      refine ih (P.erase s) m' ?_ (hd.sublist List.erase_sublist) (fun x hx => hp x (List.mem_of_mem_erase hx)) hb'
      rw [List.length_erase_of_mem hs]
      omega
theorem ind_length {n : Nat} {P : List Nat} (hd : P.Nodup) (h : Ind n P) : P.length ≤ n := by
  apply Classical.byContradiction
  intro h1
  obtain ⟨m, ⟨s, hs, hne⟩, hz⟩ := null_sets (n := n) hd (by omega)
  exact hne (h m hz s hs)
/-- One set more. -/
theorem bal_more {c : List Int} {n : Nat} : ∀ (k : Nat) (P : List Nat) (m : Nat → Rat), P.length + k = n → P.Nodup → (∀ s ∈ P, 1 ≤ s ∧ s < 2 ^ n) → Bal c n P m → Ind n P → (∀ s, s ∉ P → m s = 0) → ∃ Q m', Q.length = n ∧ Q.Nodup ∧ (∀ s ∈ Q, 1 ≤ s ∧ s < 2 ^ n) ∧ Bal c n Q m' ∧ Ind n Q := by
  intro k
  induction k with
  | zero => intro P m hk hd hp hb hi _; exact ⟨P, m, by omega, hd, hp, hb, hi⟩
  | succ k ih =>
    intro P m hk hd hp hb hi hz
    obtain ⟨d, ⟨i, hin, hne⟩, hdz⟩ := null_dir (n := n) (P := P) (by omega)
    have hnm : 2 ^ i ∉ P := by
      intro h
      have := hdz _ h
      rw [dot_one hin] at this
      exact hne this
    have hm0 := hz _ hnm
    refine ih (2 ^ i :: P) m (by rw [List.length_cons]; omega) (List.nodup_cons.2 ⟨hnm, hd⟩) (fun s hs => ?_) ⟨fun s hs => ?_, fun j hj => ?_, ?_⟩ (fun e he => ?_) (fun s hs => hz s fun h => hs (List.mem_cons_of_mem _ h))
    · rcases List.mem_cons.1 hs with rfl | hs
      · exact ⟨Nat.two_pow_pos i, Nat.pow_lt_pow_right (by decide) hin⟩
      · exact hp s hs
    · rcases List.mem_cons.1 hs with rfl | hs
      · rw [hm0]; exact Rat.le_refl
      · exact hb.pos s hs
    · have := hb.one j hj
      unfold colS at this ⊢
      rw [sumL, hm0, this]; grind
    · have := hb.cost
      rw [sumL, hm0]; grind
    · have h1 := dot_col n d e (2 ^ i :: P)
      rw [sumQ_zero (fun j hj => by rw [he j hj]; grind), sumL, sumL_zero (fun s hs => by rw [hdz s hs]; grind), dot_one hin] at h1
      have h2 : e (2 ^ i) = 0 := by
        have : e (2 ^ i) * d i = 0 := by grind
        rcases Rat.mul_eq_zero.1 this with h | h
        · exact h
        · exact absurd h hne
      have h3 := hi e fun j hj => by
        have := he j hj
        unfold colS at this ⊢
        rw [sumL, h2] at this
        grind
      intro s hs
      rcases List.mem_cons.1 hs with rfl | hs
      · exact h2
      · exact h3 s hs
/-- The sets in order. -/
theorem bal_sorted {c : List Int} {n : Nat} (hcb : ∀ v ∈ c, 0 ≤ v ∧ v ≤ 1000) (hno : ¬ ∃ x, InC c n x) : ∃ Q m, Q.length = n ∧ Q.Pairwise (· < ·) ∧ (∀ s ∈ Q, 1 ≤ s ∧ s < 2 ^ n) ∧ Bal c n Q m ∧ Ind n Q := by
  rcases either n hcb with h | ⟨m0, h0⟩
  · exact absurd h hno
  · obtain ⟨P, m1, h1, h2, h3, h4⟩ := bal_ind _ _ m0 (Nat.le_refl _) ((List.pairwise_lt_range').imp (fun h => Nat.ne_of_lt h)) (fun s hs => mem_sets.1 hs) h0
    have hcong : ∀ f : Nat → Rat, sumL (fun s => (if s ∈ P then m1 s else 0) * f s) P = sumL (fun s => m1 s * f s) P := fun f => sumL_congr fun s hs => by rw [if_pos hs]
    have hb : Bal c n P (fun s => if s ∈ P then m1 s else 0) := ⟨fun s hs => by rw [if_pos hs]; exact h3.pos s hs, fun i hi => by unfold colS; rw [hcong]; exact h3.one i hi, by rw [hcong]; exact h3.cost⟩
    obtain ⟨P2, m2, g1, g2, g3, g4, g5⟩ := bal_more (n - P.length) P _ (by have := ind_length h1 h4; omega) h1 h2 hb h4 (fun s hs => by rw [if_neg hs])
    have hQp : ((List.range' 1 (2 ^ n - 1)).filter fun s => decide (s ∈ P2)).Pairwise (· < ·) := (List.pairwise_lt_range').sublist List.filter_sublist
    have hperm : ((List.range' 1 (2 ^ n - 1)).filter fun s => decide (s ∈ P2)).Perm P2 := by
      rw [List.perm_ext_iff_of_nodup (hQp.imp (fun h => Nat.ne_of_lt h)) g2]
      intro s
      rw [List.mem_filter, decide_eq_true_eq, mem_sets]
      exact ⟨fun h => h.2, fun h => ⟨g3 s h, h⟩⟩
    refine ⟨_, m2, by rw [hperm.length_eq, g1], hQp, fun s hs => g3 s (hperm.mem_iff.1 hs), ⟨fun s hs => g4.pos s (hperm.mem_iff.1 hs), fun i hi => ?_, ?_⟩, fun m hm s hs => g5 m (fun i hi => ?_) s (hperm.mem_iff.1 hs)⟩
    · have := g4.one i hi
      unfold colS at this ⊢
      rw [sumL_perm hperm]; exact this
    · rw [sumL_perm hperm]; exact g4.cost
    · have := hm i hi
      unfold colS at this ⊢
      rw [sumL_perm hperm] at this; exact this

/- Contract: positive of package games. -/

set_option maxHeartbeats 800000 in
theorem positive_any (x l : Int) (w : World) (hx : -100000000 ≤ x ∧ x ≤ 100000000) (hl0 : l ≠ 0) (hl : -100000000 ≤ l ∧ l ≤ 100000000) :
    Calls Try.prog 79 #[.int .i64 x, .int .i64 l] w fun e w' => e = .returned (fr (solQ x l)) ∧ Below w.heap.size w w' := by
  have enx : IntKind.i64.wrap (-x) = -x := IntWalk.i64_in _ (by omega)
  have enl : IntKind.i64.wrap (-l) = -l := IntWalk.i64_in _ (by omega)
  by_cases hneg : l < 0
  · have HX : Hid (solQ x l = Rat.divInt (-x) (-l)) := Lib.hid (by unfold solQ; rw [if_pos hneg, show max l (-l) = -l from by omega])
    have d2 : decide (l < 0) = true := decide_eq_true hneg
    go_enter Try.func79, Try.ntmps79
    go_wp2_with fail
    refine (gfrac_any (-x) (-l) _ (by omega) (by omega) (by omega) (by omega)).mono ?_
    rintro e w6 ⟨rfl, hb6⟩
    rw [← HX.out]
    obtain ⟨q, hq⟩ : ∃ q, q = solQ x l := ⟨_, rfl⟩
    rw [← hq]
    have HQ := Lib.hid hq
    clear hq
    have hB := (Blk.new w 31 #[.int .i64 0, .int .i64 0] rfl).below hb6 (by simp)
    obtain ⟨b1, b2, b3, b4⟩ := hB.at2
    have HB := Lib.hid (And.intro hB (((Below.refl w.heap.size w).alloc (Nat.le_refl _) (.cells #[.int .i64 0, .int .i64 0] 31)).trans (hb6.mono (by simp))))
    clear hB hb6
    unfold fr
    go_wp2_with fail
    have c0 : (w6.setCell ⟨w.heap.size, 0, none⟩ (.int .i64 q.num)).cell? ⟨w.heap.size, 0, none⟩ = some (.int .i64 q.num) := World.cell?_setCell_same _ _ _ b1
    have c1 : ((w6.setCell ⟨w.heap.size, 0, none⟩ (.int .i64 q.num)).setCell ⟨w.heap.size, 1, none⟩ (.int .i64 (q.den : Int))).cell? ⟨w.heap.size, 1, none⟩ = some (.int .i64 (q.den : Int)) := World.cell?_setCell_same _ _ _ (by rw [World.cell?_setCell_other _ _ _ _ (by simp)]; exact b2)
    exact bodyPost_ret (v := fr q) (by simp [results, Try.results79, go_sem, fr, c0, c1]) rfl ⟨by rw [HQ.out], (HB.out.2.setCell (Nat.le_refl _) _).setCell (Nat.le_refl _) _⟩
  · have HX : Hid (solQ x l = Rat.divInt x l) := Lib.hid (by unfold solQ; rw [if_neg hneg, show max l (-l) = l from by omega])
    have d2 : decide (l < 0) = false := decide_eq_false hneg
    go_enter Try.func79, Try.ntmps79
    go_wp2_with fail
    refine (gfrac_any x l _ (by omega) (by omega) (by omega) (by omega)).mono ?_
    rintro e w6 ⟨rfl, hb6⟩
    rw [← HX.out]
    obtain ⟨q, hq⟩ : ∃ q, q = solQ x l := ⟨_, rfl⟩
    rw [← hq]
    have HQ := Lib.hid hq
    clear hq
    have hB := (Blk.new w 31 #[.int .i64 0, .int .i64 0] rfl).below hb6 (by simp)
    obtain ⟨b1, b2, b3, b4⟩ := hB.at2
    have HB := Lib.hid (And.intro hB (((Below.refl w.heap.size w).alloc (Nat.le_refl _) (.cells #[.int .i64 0, .int .i64 0] 31)).trans (hb6.mono (by simp))))
    clear hB hb6
    unfold fr
    go_wp2_with fail
    have c0 : (w6.setCell ⟨w.heap.size, 0, none⟩ (.int .i64 q.num)).cell? ⟨w.heap.size, 0, none⟩ = some (.int .i64 q.num) := World.cell?_setCell_same _ _ _ b1
    have c1 : ((w6.setCell ⟨w.heap.size, 0, none⟩ (.int .i64 q.num)).setCell ⟨w.heap.size, 1, none⟩ (.int .i64 (q.den : Int))).cell? ⟨w.heap.size, 1, none⟩ = some (.int .i64 (q.den : Int)) := World.cell?_setCell_same _ _ _ (by rw [World.cell?_setCell_other _ _ _ _ (by simp)]; exact b2)
    exact bodyPost_ret (v := fr q) (by simp [results, Try.results79, go_sem, fr, c0, c1]) rfl ⟨by rw [HQ.out], (HB.out.2.setCell (Nat.le_refl _) _).setCell (Nat.le_refl _) _⟩

/- Collections that refute costs, by whole numbers and by fractions: plain Lean. -/

/-- A set with a share. -/
abbrev Pt := Int × Int × Int
def pt (ts : List Pt) (k : Nat) : Pt := ts.getD k (0, 0, 1)
/-- shareDen. -/
def SD : Int := 27720
def ptN (t : Pt) : Int := t.2.1 * (SD / t.2.2)
def prev (ts : List Pt) (k : Nat) : List Int := (ts.take k).map (·.1)
def goodI (N : Nat) (pv : List Int) (t : Pt) : Bool := scB 12 t.2.1 t.2.2 && decide (1 ≤ t.2.1) && decide (1 ≤ t.1) && decide (t.1 < N) && !decide (t.1 ∈ pv)
def goodR (N : Nat) (pv : List Int) (t : Pt) : Bool := goodI N pv t && decide (t.2.1 ≤ t.2.2)
def goodTo (N : Nat) (ts : List Pt) (k : Nat) : Bool := (List.range k).all fun j => goodI N (prev ts j) (pt ts j)
def goodRTo (N : Nat) (ts : List Pt) (k : Nat) : Bool := (List.range k).all fun j => goodR N (prev ts j) (pt ts j)
def tI (c : List Int) (ts : List Pt) : Nat → Int
  | 0 => 0
  | k + 1 => tI c ts k + ptN (pt ts k) * c.getD (pt ts k).1.toNat 0
def sI (ts : List Pt) (i : Nat) : Nat → Int
  | 0 => 0
  | k + 1 => sI ts i k + ptN (pt ts k) * (if (pt ts k).1.toNat.testBit i then 1 else 0)
def onesI (ts : List Pt) (n : Nat) : Bool := (List.range n).all fun i => decide (sI ts i ts.length = 27720)
def refI (c : List Int) (ts : List Pt) (n : Nat) : Bool := decide (ts.length < 2 ^ n) && goodTo (2 ^ n) ts ts.length && onesI ts n && decide (tI c ts ts.length < c.getD (2 ^ n - 1) 0 * 27720)
def refR (c : List Int) (ts : List Pt) (n : Nat) : Bool := goodRTo (2 ^ n) ts ts.length && onesI ts n && decide (tI c ts ts.length < c.getD (2 ^ n - 1) 0 * 27720)

theorem goodTo_succ (N : Nat) (ts : List Pt) (k : Nat) : goodTo N ts (k + 1) = (goodTo N ts k && goodI N (prev ts k) (pt ts k)) := by simp [goodTo, List.range_succ]
theorem goodRTo_succ (N : Nat) (ts : List Pt) (k : Nat) : goodRTo N ts (k + 1) = (goodRTo N ts k && goodR N (prev ts k) (pt ts k)) := by simp [goodRTo, List.range_succ]
theorem goodTo_stop {N : Nat} {ts : List Pt} {k m : Nat} (h : k < m) (hb : goodI N (prev ts k) (pt ts k) = false) : goodTo N ts m = false := by
  unfold goodTo
  rw [List.all_eq_false]
  exact ⟨k, by simpa using h, by simp [hb]⟩
theorem goodRTo_stop {N : Nat} {ts : List Pt} {k m : Nat} (h : k < m) (hb : goodR N (prev ts k) (pt ts k) = false) : goodRTo N ts m = false := by
  unfold goodRTo
  rw [List.all_eq_false]
  exact ⟨k, by simpa using h, by simp [hb]⟩
theorem goodTo_at {N : Nat} {ts : List Pt} {k j : Nat} (h : goodTo N ts k = true) (hj : j < k) : goodI N (prev ts j) (pt ts j) = true := by
  unfold goodTo at h
  rw [List.all_eq_true] at h
  exact h j (by simpa using hj)
theorem goodI_iff {N : Nat} {pv : List Int} {t : Pt} : goodI N pv t = true ↔ scB 12 t.2.1 t.2.2 = true ∧ 1 ≤ t.2.1 ∧ 1 ≤ t.1 ∧ t.1 < N ∧ t.1 ∉ pv := by
  simp only [goodI, Bool.and_eq_true, decide_eq_true_eq, Bool.not_eq_true', decide_eq_false_iff_not, and_assoc]
theorem goodRTo_goodTo {N : Nat} {ts : List Pt} (m : Nat) (h : goodRTo N ts m = true) : goodTo N ts m = true := by
  unfold goodRTo at h
  rw [List.all_eq_true] at h
  unfold goodTo
  rw [List.all_eq_true]
  intro j hj
  have := h j hj
  unfold goodR at this
  rw [Bool.and_eq_true] at this
  exact this.1
theorem pt_get {ts : List Pt} {k : Nat} {t : Pt} (h : ts[k]? = some t) : pt ts k = t := by unfold pt; rw [List.getD_eq_getElem?_getD, h]; rfl
theorem prev_succ {ts : List Pt} {k : Nat} {t : Pt} (h : ts[k]? = some t) : prev ts (k + 1) = prev ts k ++ [t.1] := by
  unfold prev; rw [List.take_add_one, h]; simp

/-- Different numbers below N are at most N. -/
theorem nodup_len (N : Nat) : ∀ l : List Int, l.Nodup → (∀ x ∈ l, 0 ≤ x ∧ x < N) → l.length ≤ N := by
  induction N with
  | zero =>
    intro l _ h
    cases l with
    | nil => simp
    | cons x l => have := h x (by simp); omega
  | succ N ih =>
    intro l hn h
    have h1 := ih (l.filter (fun x => decide (x ≠ (N : Int)))) (hn.filter _) (fun x hx => by
      rw [List.mem_filter, decide_eq_true_eq] at hx
      have := h x hx.1
      omega)
    suffices hs : ∀ l : List Int, l.Nodup → l.length ≤ (l.filter (fun x => decide (x ≠ (N : Int)))).length + 1 by
      have := hs l hn; omega
    clear h1 h hn ih
    intro l
    induction l with
    | nil => simp
    | cons x l ih =>
      intro hn
      obtain ⟨hx, hl⟩ := List.nodup_cons.1 hn
      by_cases he : x = (N : Int)
      · have hf : l.filter (fun x => decide (x ≠ (N : Int))) = l := by
          rw [List.filter_eq_self]
          intro y hy
          rw [decide_eq_true_eq]
          rintro rfl
          exact hx (he ▸ hy)
        rw [List.filter_cons_of_neg (by simp [he]), hf]
        simp
      · rw [List.filter_cons_of_pos (by simp [he])]
        have := ih hl
        simp only [List.length_cons]
        omega
theorem good_nodup {N : Nat} {ts : List Pt} (m : Nat) (hm : m ≤ ts.length) (h : goodTo N ts m = true) : (prev ts m).Nodup ∧ ∀ x ∈ prev ts m, 1 ≤ x ∧ x < N := by
  induction m with
  | zero => simp [prev]
  | succ m ih =>
    rw [goodTo_succ, Bool.and_eq_true] at h
    obtain ⟨h1, h2⟩ := ih (by omega) h.1
    have hg : ts[m]? = some ts[m] := List.getElem?_eq_getElem (by omega)
    have hp := goodI_iff.1 h.2
    rw [pt_get hg] at hp
    rw [prev_succ hg]
    refine ⟨?_, ?_⟩
    · rw [List.nodup_append]
      refine ⟨h1, by simp, fun a ha b hb => ?_⟩
      simp only [List.mem_singleton] at hb
      subst hb
      rintro rfl
      exact hp.2.2.2.2 ha
    · intro x hx
      rcases List.mem_append.1 hx with hx | hx
      · exact h2 x hx
      · simp only [List.mem_singleton] at hx
        subst hx
        exact ⟨hp.2.2.1, hp.2.2.2.1⟩
theorem good_len {N : Nat} {ts : List Pt} (hN : 1 ≤ N) {m : Nat} (hm : m ≤ ts.length) (h : goodTo N ts m = true) : m < N := by
  obtain ⟨h1, h2⟩ := good_nodup m hm h
  have h3 := nodup_len (N - 1) ((prev ts m).map (fun x => x - 1)) (by
    rw [List.Nodup, List.pairwise_map]
    exact h1.imp fun hab he => hab (by omega)) (by
    intro x hx
    obtain ⟨y, hy, rfl⟩ := List.mem_map.1 hx
    have := h2 y hy
    omega)
  simp only [List.length_map, prev, List.length_take] at h3
  omega

theorem SD_dvd {b : Int} (h1 : 1 ≤ b) (h2 : b ≤ 12) : b ∣ SD := by
  obtain ⟨n, rfl⟩ := Int.eq_ofNat_of_zero_le (show 0 ≤ b by omega)
  have h : ∀ n : Nat, n < 13 → 1 ≤ n → (n : Int) ∣ SD := by decide +kernel
  exact h n (by omega) (by omega)
theorem ptN_eq {b : Int} (h1 : 1 ≤ b) (h2 : b ≤ 12) : ∃ k, SD = b * k ∧ SD / b = k ∧ 1 ≤ k := by
  obtain ⟨k, hk⟩ := SD_dvd h1 h2
  have e : SD / b = k := by rw [hk, Int.mul_ediv_cancel_left _ (by omega)]
  refine ⟨k, hk, e, ?_⟩
  rcases Int.lt_or_le k 1 with h | h
  · have : b * k ≤ 0 := Int.mul_nonpos_of_nonneg_of_nonpos (by omega) (by omega)
    have : SD = 27720 := rfl
    omega
  · exact h
theorem ptN_pos {t : Pt} {N : Nat} {pv : List Int} (h : goodI N pv t = true) : 1 ≤ ptN t ∧ ptN t ≤ 2772000000 := by
  obtain ⟨hs, h1, _⟩ := goodI_iff.1 h
  obtain ⟨g1, g2, g3, g4, _⟩ := scB_iff.1 hs
  obtain ⟨k, hk, e, hk1⟩ := ptN_eq g1 g2
  have hkS : k ≤ SD := by rw [← e]; exact Int.ediv_le_self _ (by decide)
  have eS : SD = 27720 := rfl
  unfold ptN
  rw [e]
  have hm := mul_bd (m := 100000) (n := 27720) (by omega) g3 (show 0 ≤ k by omega) (by omega)
  have : 1 * 1 ≤ t.2.1 * k := Int.mul_le_mul h1 hk1 (by omega) (by omega)
  omega
/-- A share of at most one. -/
theorem ptN_le {t : Pt} {N : Nat} {pv : List Int} (h : goodI N pv t = true) : ptN t ≤ 27720 ↔ t.2.1 ≤ t.2.2 := by
  obtain ⟨hs, h1, _⟩ := goodI_iff.1 h
  obtain ⟨g1, g2, g3, g4, _⟩ := scB_iff.1 hs
  obtain ⟨k, hk, e, hk1⟩ := ptN_eq g1 g2
  have eS : (27720 : Int) = t.2.2 * k := hk
  unfold ptN
  rw [e, eS]
  constructor
  · intro h
    exact Int.le_of_mul_le_mul_right h (by omega)
  · intro h
    exact Int.mul_le_mul_of_nonneg_right h (by omega)
theorem sI_mono {N : Nat} {ts : List Pt} {i : Nat} {m : Nat} (h : goodTo N ts m = true) : ∀ j, j ≤ m → 0 ≤ sI ts i j ∧ ∀ k, k < j → (pt ts k).1.toNat.testBit i = true → ptN (pt ts k) ≤ sI ts i j := by
  intro j
  induction j with
  | zero => intro _; exact ⟨by simp [sI], fun k hk => by omega⟩
  | succ j ih =>
    intro hj
    obtain ⟨h1, h2⟩ := ih (by omega)
    have hp := ptN_pos (goodTo_at h (show j < m by omega))
    simp only [sI]
    refine ⟨by split <;> omega, fun k hk hb => ?_⟩
    by_cases hkj : k = j
    · subst hkj
      rw [if_pos hb]; omega
    · have := h2 k (by omega) hb
      split <;> omega
theorem bit_exists {s n : Nat} (h1 : 1 ≤ s) (h2 : s < 2 ^ n) : ∃ i, i < n ∧ s.testBit i = true := by
  refine Decidable.byContradiction fun h => ?_
  have h0 : s = 0 := by
    apply Nat.eq_of_testBit_eq
    intro i
    rw [Nat.zero_testBit]
    by_cases hi : i < n
    · rw [← Bool.not_eq_true]
      exact fun hb => h ⟨i, hi, hb⟩
    · exact Nat.testBit_lt_two_pow (Nat.lt_of_lt_of_le h2 (Nat.pow_le_pow_right (by omega) (by omega)))
  omega
theorem ref_good {ts : List Pt} {n : Nat} (hg : goodTo (2 ^ n) ts ts.length = true) (ho : onesI ts n = true) : goodRTo (2 ^ n) ts ts.length = true := by
  unfold goodRTo
  rw [List.all_eq_true]
  intro j hj
  rw [List.mem_range] at hj
  have hp := goodTo_at hg hj
  unfold goodR
  rw [hp, Bool.true_and, decide_eq_true_eq, ← ptN_le hp]
  have hi := goodI_iff.1 hp
  obtain ⟨i, hin, hb⟩ := bit_exists (s := (pt ts j).1.toNat) (n := n) (by omega) (by omega)
  have h1 := (sI_mono (i := i) hg ts.length (Nat.le_refl _)).2 j hj hb
  unfold onesI at ho
  rw [List.all_eq_true] at ho
  have := ho i (by simpa using hin)
  rw [decide_eq_true_eq] at this
  omega
theorem refI_refR {c : List Int} {ts : List Pt} {n : Nat} : refI c ts n = refR c ts n := by
  rw [Bool.eq_iff_iff]
  unfold refI refR
  simp only [Bool.and_eq_true, decide_eq_true_eq]
  constructor
  · rintro ⟨⟨⟨_, h2⟩, h3⟩, h4⟩
    exact ⟨⟨ref_good h2 h3, h3⟩, h4⟩
  · rintro ⟨⟨h2, h3⟩, h4⟩
    have hg := goodRTo_goodTo _ h2
    exact ⟨⟨⟨good_len (Nat.pos_of_neZero _) (Nat.le_refl _) hg, hg⟩, h3⟩, h4⟩
theorem refI_take {c : List Int} {ts : List Pt} {n : Nat} (hn : n ≤ 4) : refI c (ts.take 18) n = refR c ts n := by
  by_cases h : ts.length ≤ 18
  · rw [List.take_of_length_le h, refI_refR]
  · have hp : 2 ^ n ≤ 16 := by have := Nat.pow_le_pow_right (show 0 < 2 by omega) hn; simpa using this
    have e1 : refI c (ts.take 18) n = false := by
      unfold refI
      rw [decide_eq_false (by rw [List.length_take]; omega)]; rfl
    have e2 : refR c ts n = false := by
      rw [← Bool.not_eq_true]
      intro hr
      unfold refR at hr
      simp only [Bool.and_eq_true, decide_eq_true_eq] at hr
      have := good_len (Nat.pos_of_neZero _) (Nat.le_refl _) (goodRTo_goodTo _ hr.1.1)
      omega
    rw [e1, e2]

/- Slices of sets with shares. -/

/-- The cells of a row of sets with shares. -/
def tcells (ts : List Pt) : List Value := ts.flatMap fun t => [.int .i64 t.1, .int .i64 t.2.1, .int .i64 t.2.2]
theorem tcells_length (ts : List Pt) : (tcells ts).length = ts.length * 3 := by
  induction ts with
  | nil => rfl
  | cons t ts ih => simp only [tcells, List.flatMap_cons, List.length_append, List.length_cons, List.length_nil] at ih ⊢; omega
theorem tcells_snoc (ts : List Pt) (t : Pt) : tcells (ts ++ [t]) = tcells ts ++ [.int .i64 t.1, .int .i64 t.2.1, .int .i64 t.2.2] := by simp [tcells]
theorem tcells_at (ts : List Pt) (k : Nat) (t : Pt) (h : ts[k]? = some t) : (tcells ts)[k * 3]? = some (.int .i64 t.1) ∧ (tcells ts)[k * 3 + 1]? = some (.int .i64 t.2.1) ∧ (tcells ts)[k * 3 + 2]? = some (.int .i64 t.2.2) := by
  induction ts generalizing k with
  | nil => simp at h
  | cons t' ts ih =>
    cases k with
    | zero => simp at h; subst h; simp [tcells]
    | succ k =>
      have := ih k (by simpa using h)
      have e1 : (k + 1) * 3 = k * 3 + 1 + 1 + 1 := by omega
      rw [e1]
      simpa [tcells] using this
/-- The slice at A reads as these sets with shares. -/
def Tps (w : World) (A : Option Addr) (ts : List Pt) : Prop := At w A (tcells ts)
theorem Tps.some_ {w : World} {A : Option Addr} {ts : List Pt} (h : Tps w A ts) (hn : 0 < ts.length) : ∃ ad, A = some ad ∧ ad.block < w.heap.size ∧ ∀ i t, ts[i]? = some t → w.cell? (ad.add (i * 3)) = some (.int .i64 t.1) ∧ w.cell? ⟨(ad.add (i * 3)).block, (ad.add (i * 3)).off + 1, none⟩ = some (.int .i64 t.2.1) ∧ w.cell? ⟨(ad.add (i * 3)).block, (ad.add (i * 3)).off + 2, none⟩ = some (.int .i64 t.2.2) := by
  obtain ⟨ad, e, hb, hc⟩ := At.some_ h (by rw [tcells_length]; omega)
  refine ⟨ad, e, hb, fun i t ht => ?_⟩
  obtain ⟨h1, h2, h3⟩ := tcells_at ts i t ht
  refine ⟨hc _ _ h1, ?_, ?_⟩
  · have h4 := hc _ _ h2
    rw [← add_add] at h4
    exact h4
  · have h4 := hc _ _ h3
    rw [← add_add] at h4
    exact h4
theorem Tps.below {w w' : World} {A : Option Addr} {ts : List Pt} (h : Tps w A ts) (hb : Below w.heap.size w w') : Tps w' A ts := At.below h hb
theorem info_gpart : (Try.prog.info? 80).map (fun i => (i.zero, i.size, i.bytes)) = some (some (.agg #[.int .i64 0, .int .i64 0, .int .i64 0]), 3, 24) := by kernel_rfl
theorem sty_gpart : STy 58 80 (.agg #[.int .i64 0, .int .i64 0, .int .i64 0]) 3 24 := ⟨Try.underlying58, info_gpart, rfl, by decide, by decide⟩

set_option maxRecDepth 100000 in
set_option maxHeartbeats 800000 in
theorem lparts_any (A : Option Addr) (n cap : Nat) (ts : List Pt) (w : World) (hl : ts.length = n) (hm : n ≤ 9223372036854775807) (h : Tps w A ts) :
    Calls Try.prog 44 #[.slice A n cap] w fun e w' => ∃ A' c, e = .returned (.slice A' (min n 18) c) ∧ w'.ownsRow w.heap.size 80 3 (.slice A' (min n 18) c) (min n 18) (tcells (ts.take 18)) ∧ Below w.heap.size w w' := by
  have hI := fun (hp : 0 < ts.length) => h.some_ hp
  have H := Lib.hid (And.intro hl hI)
  clear hl h hI
  go_enter Try.func44, Try.ntmps44
  go_wp2_with fail
  go_loopw [3, 8] (fun ov iv wr => ∃ (k : Nat) (B : Option Addr) (bc : Nat), k ≤ n ∧ iv = .int .i64 k ∧ ov = .slice B (min k 18) bc ∧ wr.ownsRow w.heap.size 80 3 (.slice B (min k 18) bc) (min k 18) (tcells ((ts.take k).take 18)) ∧ Below w.heap.size w wr) (fun _ iv _ => n - (intOf iv).toNat)
  case atStart => exact ⟨0, none, 0, Nat.zero_le _, rfl, rfl, World.ownsRow_nil _ _ _ _, Below.refl _ _⟩
  case round =>
    obtain ⟨k, B, bc, hk, rfl, rfl, hown, hbl⟩ := hrel
    have HR := Lib.hid (And.intro hown hbl)
    have hws := hbl.size
    clear hown
    by_cases hlt : k < n
    · obtain ⟨hl, hI⟩ := H.out
      obtain ⟨ad, rfl, _, hc⟩ := hI (by omega)
      obtain ⟨t, ht⟩ : ∃ t, ts[k]? = some t := ⟨_, List.getElem?_eq_getElem (by omega)⟩
      obtain ⟨g1, g2, g3⟩ := hc k t ht
      have c1 := (hbl.cell (lt_of_cell g1)).trans g1
      have c2 := (hbl.cell (lt_of_cell g2)).trans g2
      have c3 := (hbl.cell (lt_of_cell g3)).trans g3
      obtain ⟨s, a, b⟩ := t
      simp only at c1 c2 c3
      have HT := Lib.hid ht
      clear hl hI hc ht g1 g2 g3 hbl
      by_cases h18 : k < 18
      · have hmin : min k 18 = k := by omega
        have HNEW : Hid (tcells ((ts.take (k + 1)).take 18) = tcells ((ts.take k).take 18) ++ [.int .i64 s, .int .i64 a, .int .i64 b]) := Lib.hid (by
          have t1 : (ts.take (k + 1)).take 18 = ts.take (k + 1) := List.take_of_length_le (by rw [List.length_take]; omega)
          have t2 : (ts.take k).take 18 = ts.take k := List.take_of_length_le (by rw [List.length_take]; omega)
          rw [t1, t2, List.take_add_one, HT.out]
          exact tcells_snoc _ _)
        have HR2 : Hid (wr.ownsRow w.heap.size 80 3 (.slice B k bc) k (tcells ((ts.take k).take 18))) := Lib.hid (by have := HR.out.1; rwa [hmin] at this)
        rw [hmin]
        clear hmin
        go_wp2_with (at_builtin; refine app1h sty_gpart rfl _ _ rfl w.heap.size B k bc _ #[.int .i64 s, .int .i64 a, .int .i64 b] rfl (by simp [Value.oneCell']) rfl (HR2.out.alloc _) (wr.heap.size + 1) rfl (by simp) (by omega) (by go_size) ?_)
        intro A4 k4 w4 hown4 _ hbl4 hk41 hk42
        rw [← HNEW.out] at hown4
        have HR4 := Lib.hid (And.intro hown4 ((HR.out.2.alloc hws _).trans hbl4))
        clear hown4 hbl4
        go_wp2_with fail
        go_roundw
        case rel =>
          have e : min (k + 1) 18 = k + 1 := by omega
          exact ⟨k + 1, A4, k4, by omega, by go_num, by rw [e], by rw [e]; exact HR4.out.1, HR4.out.2⟩
        case measure => simp [intOf]; omega
      · have HNEW : Hid ((ts.take (k + 1)).take 18 = (ts.take k).take 18) := Lib.hid (by rw [List.take_take, List.take_take]; congr 1; omega)
        go_wp2_with fail
        go_roundw
        case rel =>
          have e : min (k + 1) 18 = min k 18 := by omega
          exact ⟨k + 1, B, bc, by omega, by go_num, by rw [e], by rw [e, HNEW.out]; exact HR.out.1.alloc _, HR.out.2.alloc hws _⟩
        case measure => simp [intOf]; omega
    · obtain rfl : n = k := by omega
      have HE : Hid ((ts.take n).take 18 = ts.take 18) := Lib.hid (by rw [List.take_of_length_le (l := ts) (by rw [H.out.1]; omega)])
      clear hbl
      go_wp2_with fail
      go_ret
      exact ⟨B, bc, rfl, by rw [← HE.out]; exact HR.out.1, HR.out.2⟩

/- A set of ints as a map to bools that the call makes; slices.ContainsFunc with the test of CheckRefute. -/

theorem keyI : Maps.Keyed Try.prog 3 := Maps.int_keyed Try.underlying3
theorem zeroB (w : World) : (zeroValue 4).run Try.prog w = .ok (.bool false) w := by kernel_rfl
/-- Block b is a map that holds true just for these numbers. -/
def SeenM (w : World) (b n : Nat) (S : List Int) : Prop :=
  ∃ D : DataW Unit, w.ownsMap Try.prog 3 (plainElem Try.prog 4) b n D ∧ Maps.IsMap D ∧ ∀ x : Int, D.atKey (.int .i64 x) (.lit (.bool false)) = .lit (.bool (decide (x ∈ S)))
theorem SeenM.made (w : World) : SeenM (w.alloc (.map #[] 0)) w.heap.size 0 [] :=
  ⟨_, World.ownsMap_made w Try.prog 3 _, Maps.isMap_empty, fun x => by simp [DataW.atKey]⟩
theorem SeenM.lt {w : World} {b n : Nat} {S : List Int} (h : SeenM w b n S) : b < w.heap.size := by obtain ⟨D, h, _⟩ := h; exact h.lt
theorem SeenM.kept {w w' : World} {b n : Nat} {S : List Int} (h : SeenM w b n S) (hb : w'.heap[b]? = w.heap[b]?) : SeenM w' b n S := by
  obtain ⟨D, ⟨es, clock, hm, F, hs, hD⟩, h2, h3⟩ := h
  exact ⟨D, ⟨es, clock, hb.trans hm, F, hs, hD⟩, h2, h3⟩
theorem SeenM.below {w w' : World} {b n B : Nat} {S : List Int} (h : SeenM w b n S) (hb : Below B w w') (hlt : b < B) : SeenM w' b n S := h.kept (hb.block b hlt)
theorem wfI {x : Int} (h1 : -9223372036854775808 ≤ x) (h2 : x ≤ 9223372036854775807) : (Lit.int .i64 x).wf = true := WalkArith.wf_i64 (by omega)
theorem SeenM.look {w : World} {b n : Nat} {S : List Int} (h : SeenM w b n S) {x : Int} (h1 : -9223372036854775808 ≤ x) (h2 : x ≤ 9223372036854775807) :
    (Instr.lookup 78 (.map (some b)) (.int .i64 x) false).run Try.prog w = .ok (.bool (decide (x ∈ S))) w := by
  obtain ⟨D, hown, _, hat⟩ := h
  obtain ⟨v, ps, hrun, hv⟩ := hown.lookup keyI Try.underlying78 (zeroB w) (plainElem_bool Try.underlying4 false) (Maps.keyOf_int_mk Try.underlying3 (wfI h1 h2))
  rw [hat x] at hv
  have hvx : v = .bool (decide (x ∈ S)) := by
    simp only [plainElem, Try.underlying4] at hv
    cases v <;> simp at hv
    rw [hv.1]
  rw [hrun, hvx]
theorem SeenM.store {w : World} {b n : Nat} {S : List Int} (h : SeenM w b n S) {x : Int} (h1 : -9223372036854775808 ≤ x) (h2 : x ≤ 9223372036854775807) (hn : n ≤ 1000) :
    ∃ w', (Instr.mapUpdate 78 (.map (some b)) (.int .i64 x) (.bool true)).run Try.prog w = .ok () w' ∧ SeenM w' b (n + 1) (S ++ [x]) ∧ w.grownBy w' (some b) := by
  obtain ⟨D, hown, hm, hat⟩ := h
  obtain ⟨w', hrun, hown', hg⟩ := hown.update keyI Try.underlying78 (by unfold maxLen; omega) (Maps.keyOf_int_mk Try.underlying3 (wfI h1 h2)) (plainElem_bool Try.underlying4 true)
  refine ⟨w', hrun, ⟨_, hown', hm.put _ _, fun y => ?_⟩, hg⟩
  by_cases hy : y = x
  · subst hy
    rw [Maps.atKey_put_same hm (show WideAt.IsKeyLit (.int .i64 y) from trivial)]
    simp
  · rw [Maps.atKey_put_other (by simpa using hy), hat y]
    simp [hy]

theorem cr1_any (x : Int) (w : World) : Calls Try.prog 73 #[.int .i64 x] w fun e w' => e = .returned (.bool (x != 27720)) ∧ w = w' := by
  go_enter Try.func73, Try.ntmps73
  go_wp2_with fail
  go_ret
  exact ⟨rfl, rfl⟩

/-- What IndexFunc leaves. -/
def FnePost (xs : List Int) (w : World) (e : Ending) (w' : World) : Prop := ∃ r : Int, e = .returned (.int .i64 r) ∧ w = w' ∧ -1 ≤ r ∧ decide (0 ≤ r) = !xs.all (fun x => x == 27720)
set_option maxHeartbeats 400000 in
theorem indexF_any (A : Option Addr) (n cap : Nat) (xs : List Int) (w : World) (hl : xs.length = n) (hm : n ≤ 1000) (h : Ints w A xs) :
    Calls Try.prog 87 #[.slice A n cap, .func (.func 73) #[] #[]] w (FnePost xs w) := by
  have hI := fun (hp : 0 < xs.length) => h.some_ hp
  have H := Lib.hid (And.intro hl hI)
  clear hl h hI
  go_enter Try.func87, Try.ntmps87
  go_wp2_with fail
  go_loop [8] (fun i => ∃ k : Nat, k ≤ n ∧ i = .int .i64 k ∧ (xs.take k).all (fun x => x == 27720) = true) (fun i => n - (intOf i).toNat)
  case atStart => exact ⟨0, Nat.zero_le _, rfl, by simp⟩
  case round =>
    obtain ⟨k, hk, rfl, ha⟩ := hrel
    have HA := Lib.hid ha
    clear ha
    by_cases hlt : k < n
    · obtain ⟨hl, hI⟩ := H.out
      obtain ⟨ad, rfl, _, hc⟩ := hI (by omega)
      obtain ⟨x, hx⟩ : ∃ x, xs[k]? = some x := ⟨_, List.getElem?_eq_getElem (by omega)⟩
      have hcell := hc k x hx
      have HX := Lib.hid hx
      clear hl hI hc hx
      go_wp2_with fail
      refine (cr1_any x _).mono ?_
      rintro e w' ⟨rfl, rfl⟩
      by_cases he : x = 27720
      · have hb : (x != 27720) = false := by simp [he]
        have HN : Hid ((xs.take (k + 1)).all (fun x => x == 27720) = true) := Lib.hid (by rw [take_succ' HX.out, List.all_append, HA.out]; simp [he])
        rw [hb]
        clear he hb
        go_wp2_with fail
        go_round
        case rel => exact ⟨k + 1, by omega, by go_num, HN.out⟩
        case measure => simp [intOf]; omega
      · have hb : (x != 27720) = true := by simpa using he
        have HN : Hid (xs.all (fun x => x == 27720) = false) := Lib.hid (by
          rw [List.all_eq_false]
          exact ⟨x, List.mem_of_getElem? HX.out, by simpa using he⟩)
        rw [hb]
        clear he hb
        go_wp2_with fail
        go_ret
        exact ⟨(k : Int), rfl, rfl, by omega, by rw [HN.out, decide_eq_true (by omega)]; rfl⟩
    · have HN : Hid (xs.all (fun x => x == 27720) = true) := Lib.hid (by have h := HA.out; rwa [List.take_of_length_le (by rw [H.out.1]; omega)] at h)
      go_wp2_with fail
      go_ret
      exact ⟨-1, rfl, rfl, by omega, by rw [HN.out]; rfl⟩

theorem containsF_any (A : Option Addr) (n cap : Nat) (xs : List Int) (w : World) (hl : xs.length = n) (hm : n ≤ 1000) (h : Ints w A xs) :
    Calls Try.prog 72 #[.slice A n cap, .func (.func 73) #[] #[]] w fun e w' => e = .returned (.bool (!xs.all (fun x => x == 27720))) ∧ w = w' := by
  go_enter Try.func72, Try.ntmps72
  go_wp2_with fail
  refine (indexF_any A n cap xs _ hl hm h).mono ?_
  rintro e w' ⟨r, rfl, rfl, hr, hd⟩
  have HD := Lib.hid hd
  clear hd h hl
  go_wp2_with fail
  go_ret
  exact ⟨ret_bool HD.out, rfl⟩

/- Contract: CheckRefute of package games. -/

def sRow (ts : List Pt) (k n : Nat) : List Int := (List.range n).map fun i => sI ts i k
def sMix (ts : List Pt) (k j n : Nat) : List Int := (List.range n).map fun i => if i < j then sI ts i (k + 1) else sI ts i k
theorem sRow_length (ts : List Pt) (k n : Nat) : (sRow ts k n).length = n := by simp [sRow]
theorem sMix_length (ts : List Pt) (k j n : Nat) : (sMix ts k j n).length = n := by simp [sMix]
theorem sRow_zero (ts : List Pt) (n : Nat) : sRow ts 0 n = List.replicate n 0 := by
  apply List.ext_getElem?
  intro i
  simp only [sRow, List.getElem?_map, List.getElem?_replicate]
  by_cases h : i < n <;> simp [h, sI]
theorem sMix_zero (ts : List Pt) (k n : Nat) : sMix ts k 0 n = sRow ts k n := by simp [sMix, sRow]
theorem sMix_full (ts : List Pt) (k n : Nat) : sMix ts k n n = sRow ts (k + 1) n := by
  unfold sMix sRow
  apply List.map_congr_left
  intro s hs
  rw [List.mem_range] at hs
  rw [if_pos hs]
theorem sMix_get {ts : List Pt} {k j n : Nat} (h : j < n) : (sMix ts k j n)[j]? = some (sI ts j k) := by simp [sMix, h]
theorem sMix_succ {ts : List Pt} {k j n : Nat} (h : j < n) : sMix ts k (j + 1) n = (sMix ts k j n).set j (sI ts j (k + 1)) := by
  apply List.ext_getElem?
  intro i
  rw [List.getElem?_set]
  by_cases hij : j = i
  · subst hij
    rw [if_pos rfl, if_pos (by rw [sMix_length]; exact h)]
    simp [sMix, h]
  · rw [if_neg hij]
    simp only [sMix, List.getElem?_map]
    by_cases hi : i < n
    · simp only [List.getElem?_range hi, Option.map_some]
      congr 1
      by_cases h1 : i < j
      · rw [if_pos h1, if_pos (by omega)]
      · rw [if_neg h1, if_neg (by omega)]
    · simp [hi]
theorem ones_row (ts : List Pt) (n : Nat) : (sRow ts ts.length n).all (fun x => x == 27720) = onesI ts n := by
  unfold sRow onesI
  rw [List.all_map]
  congr 1
theorem sI_bd {N : Nat} {ts : List Pt} (i : Nat) {k : Nat} (h : goodTo N ts k = true) : 0 ≤ sI ts i k ∧ sI ts i k ≤ 2772000000 * (k : Int) := by
  induction k with
  | zero => simp [sI]
  | succ k ih =>
    rw [goodTo_succ, Bool.and_eq_true] at h
    have h1 := ih h.1
    have h2 := ptN_pos h.2
    have e : (2772000000 : Int) * ((k + 1 : Nat) : Int) = 2772000000 * (k : Int) + 2772000000 := by omega
    rw [e]
    simp only [sI]
    split <;> omega
theorem nz_bd {v z : Int} (hv : 1 ≤ v ∧ v ≤ 2772000000) (hz : 0 ≤ z ∧ z ≤ 1000) : 0 ≤ v * z ∧ v * z ≤ 2772000000000 := by
  have h1 := mul_bd (a := v) (b := z) (m := 2772000000) (n := 1000) (by omega) hv.2 hz.1 hz.2
  have h2 : 0 ≤ v * z := Int.mul_nonneg (by omega) hz.1
  omega
theorem tI_bd {c : List Int} (hcb : ∀ x ∈ c, 0 ≤ x ∧ x ≤ 1000) {N : Nat} {ts : List Pt} {k : Nat} (h : goodTo N ts k = true) : 0 ≤ tI c ts k ∧ tI c ts k ≤ 2772000000000 * (k : Int) := by
  induction k with
  | zero => simp [tI]
  | succ k ih =>
    rw [goodTo_succ, Bool.and_eq_true] at h
    have h1 := ih h.1
    have h2 := nz_bd (ptN_pos h.2) (costs_get hcb (pt ts k).1.toNat)
    have e : (2772000000000 : Int) * ((k + 1 : Nat) : Int) = 2772000000000 * (k : Int) + 2772000000000 := by omega
    rw [e]
    simp only [tI]
    omega
theorem np_cases2 {n N : Nat} (h1 : 1 ≤ n) (h4 : n ≤ 4) (hN : N = 2 ^ n) : N = 2 ∧ n = 1 ∨ N = 4 ∧ n = 2 ∨ N = 8 ∧ n = 3 ∨ N = 16 ∧ n = 4 := by
  subst hN
  match n, h1, h4 with
  | 1, _, _ => simp
  | 2, _, _ => simp
  | 3, _, _ => simp
  | 4, _, _ => simp
/-- What CheckRefute answers. -/
def crB (c : List Int) (ts : List Pt) : Bool := if valC c then refI c ts (plr c) else false
theorem refI_bad {c : List Int} {ts : List Pt} {n k : Nat} (h : k < ts.length) (hb : goodI (2 ^ n) (prev ts k) (pt ts k) = false) : refI c ts n = false := by
  unfold refI
  rw [goodTo_stop h hb, Bool.and_false, Bool.false_and, Bool.false_and]

set_option maxRecDepth 100000 in
set_option maxHeartbeats 4000000 in
theorem checkrefute_ok (ac : Addr) (N capc : Nat) (A : Option Addr) (m cap n : Nat) (c : List Int) (ts : List Pt) (w : World) (hlc : c.length = N) (hv : valC c = true) (hnp : n = plr c) (hl : ts.length = m) (hm : m ≤ 9223372036854775807)
    (hc : Ints w (some ac) c) (h : Tps w A ts) (hr : ∀ t ∈ ts, (-9223372036854775808 ≤ t.1 ∧ t.1 ≤ 9223372036854775807) ∧ (-9223372036854775808 ≤ t.2.1 ∧ t.2.1 ≤ 9223372036854775807) ∧ -9223372036854775808 ≤ t.2.2 ∧ t.2.2 ≤ 9223372036854775807) :
    Calls Try.prog 43 #[.slice (some ac) N capc, .slice A m cap] w fun e w' => e = .returned (.tuple #[.bool (refI c ts n), .int .i64 0]) ∧ Below w.heap.size w w' := by
  have hpw := valC_pow hv
  rw [← hnp] at hpw
  have hn4 : 1 ≤ n ∧ n ≤ 4 := hpw.2
  have hN16 : 2 ≤ N ∧ N ≤ 16 := by have := (valC_iff.1 hv).1; omega
  have hmk := make_ints n (by omega)
  have hmm := @run_makeMap Try.prog
  have hN2 : N = 2 ^ n := by rw [← hlc]; exact hpw.1
  have hNP := np_cases2 hn4.1 hn4.2 hN2
  have hI := fun (hp : 0 < ts.length) => h.some_ hp
  have H := Lib.hid (And.intro hlc (And.intro hl (And.intro hc (And.intro hI (And.intro hr (And.intro hN2 (And.intro hv hNP)))))))
  clear hlc hl hc h hr hpw hv hnp hN2 hNP hI
  obtain ⟨R, hR⟩ : ∃ R, R = refI c ts n := ⟨_, rfl⟩
  rw [← hR]
  have HR := Lib.hid hR
  clear hR
  go_enter Try.func43, Try.ntmps43
  go_wp2_with fail
  refine (valid_any (some ac) N capc c _ H.out.1 (by omega) H.out.2.2.1).mono ?_
  rintro e w1 ⟨rfl, hb⟩
  rw [H.out.2.2.2.2.2.2.1]
  have HB := Lib.hid hb
  have hw1 := hb.size
  clear hb
  by_cases hmN : N ≤ m
  · have hF : Hid (R = false) := Lib.hid (by rw [HR.out]; unfold refI; rw [H.out.2.1, ← H.out.2.2.2.2.2.1, decide_eq_false (by omega)]; rfl)
    clear hmk hmm
    go_wp2_with fail
    go_ret2
    exact ⟨by rw [hF.out]; rfl, HB.out⟩
  · go_wp2_with fail
    refine (players_any _ _ n _ _ H.out.2.2.2.2.2.2.2).mono ?_
    rintro e w' ⟨rfl, rfl⟩
    go_wp2_with fail
    clear hmm
    go_loopw [8, 30] (fun tv iv wr => ∃ k : Nat, k ≤ m ∧ iv = .int .i64 k ∧ tv = .int .i64 (tI c ts k) ∧ goodTo N ts k = true ∧ Blk wr w1.heap.size 3 (arr (sRow ts k n)) ∧ SeenM wr (w1.heap.size + 1) k (prev ts k) ∧ Below w.heap.size w wr) (fun _ iv _ => m - (intOf iv).toNat)
    case atStart =>
      refine ⟨0, Nat.zero_le _, rfl, rfl, rfl, ?_, ?_, (HB.out.alloc hw1 _).alloc (by simp; omega) _⟩
      · rw [sRow_zero]
        exact (Blk.new _ _ _ rfl).alloc _
      · have := SeenM.made (w1.alloc (.cells (arr (List.replicate n 0)) 3))
        simpa [prev] using this
    case round =>
      obtain ⟨k, hk, rfl, rfl, hg, hS, hM, hbl⟩ := hrel
      obtain ⟨wo, rfl⟩ : ∃ wo : World, wo = wr := ⟨_, rfl⟩
      have hMlt := hM.lt
      have hws := hbl.size
      have htb := tI_bd (valC_iff.1 H.out.2.2.2.2.2.2.1).2.2 hg
      by_cases hlt : k < m
      · obtain ⟨hlc, hl, hc, hI, hr, hN2, hv, hNP⟩ := H.out
        obtain ⟨ad, rfl, _, hct⟩ := hI (by omega)
        obtain ⟨t, ht⟩ : ∃ t, ts[k]? = some t := ⟨_, List.getElem?_eq_getElem (by omega)⟩
        obtain ⟨g1, g2, g3⟩ := hct k t ht
        have c1 := (hbl.cell (lt_of_cell g1)).trans g1
        have c2 := (hbl.cell (lt_of_cell g2)).trans g2
        have c3 := (hbl.cell (lt_of_cell g3)).trans g3
        obtain ⟨hr1, hr2, hr3⟩ := hr t (List.mem_of_getElem? ht)
        have hpt := pt_get ht
        have hpv := prev_succ ht
        obtain ⟨s, a, b⟩ := t
        simp only at c1 c2 c3 hr1 hr2 hr3 hpv
        have hbad : goodI (2 ^ n) (prev ts k) (s, a, b) = false → R = false := fun hb => by rw [HR.out]; exact refI_bad (k := k) (by omega) (by rw [hpt]; exact hb)
        obtain ⟨T, hT⟩ : ∃ T, T = tI c ts k := ⟨_, rfl⟩
        rw [← hT] at htb ⊢
        have HX := Lib.hid (And.intro hg (And.intro hS (And.intro hM (And.intro hbl (And.intro hpt (And.intro hpv (And.intro hbad hT)))))))
        clear hlc hl hc hI hr hN2 hv hNP hct ht g1 g2 g3 hpt hpv hbad hg hS hM hbl hT
        cases hs : scB 12 a b
        · have HS := Lib.hid hs
          have HF : Hid (R = false) := Lib.hid (HX.out.2.2.2.2.2.2.1 (by unfold goodI; simp only [hs, Bool.false_and]))
          clear hs
          go_wp2_with fail
          refine (scaled_no a b _ 12 _ (by omega) hr2 hr3 HS.out).mono ?_
          rintro e w2 ⟨rfl, hb2⟩
          have HB2 := Lib.hid ((HX.out.2.2.2.1.alloc hws (.cells #[.int .i64 s, .int .i64 a, .int .i64 b] 80)).trans (hb2.mono (by simp; omega)))
          clear hb2
          go_wp2_with fail
          go_ret2
          exact ⟨by rw [HF.out]; rfl, HB2.out⟩
        · have HS := Lib.hid hs
          have hv1 : scN 27720 (a, b) = ptN (s, a, b) := rfl
          have hvp : 1 ≤ a → 1 ≤ ptN (s, a, b) ∧ ptN (s, a, b) ≤ 2772000000 := fun ha => ptN_pos (N := 2) (pv := []) (t := (1, a, b)) (goodI_iff.2 ⟨hs, ha, by simp, by simp, by simp⟩)
          have hvn : ¬ 1 ≤ a → ptN (s, a, b) ≤ 0 := fun ha => by
            obtain ⟨q1, q2, q3, q4, _⟩ := scB_iff.1 hs
            obtain ⟨kk, _, e, hk1⟩ := ptN_eq q1 q2
            unfold ptN
            simp only
            rw [e]
            exact Int.mul_nonpos_of_nonpos_of_nonneg (by omega) (by omega)
          obtain ⟨v, hvv⟩ : ∃ v, v = ptN (s, a, b) := ⟨_, rfl⟩
          rw [← hvv] at hv1 hvp hvn
          have HV := Lib.hid (And.intro hvv hv1)
          clear hs hv1 hvv
          go_wp2_with fail
          refine (scaled_yes a b 27720 12 _ (by omega) (by omega) HS.out).mono ?_
          rintro e w2 ⟨rfl, hb2⟩
          rw [HV.out.2]
          have hB2 : Blk w2 wo.heap.size 80 #[.int .i64 s, .int .i64 a, .int .i64 b] := (Blk.new _ _ _ rfl).below hb2 (by simp)
          have hS2 : Blk w2 w1.heap.size 3 (arr (sRow ts k n)) := (HX.out.2.1.alloc _).below hb2 (by simp; omega)
          have hM2 : SeenM w2 (w1.heap.size + 1) k (prev ts k) := (HX.out.2.2.1.below ((Below.refl wo.heap.size wo).alloc (Nat.le_refl _) _) hMlt).below hb2 (by simp; omega)
          have hbw2 := (HX.out.2.2.2.1.alloc hws (.cells #[.int .i64 s, .int .i64 a, .int .i64 b] 80)).trans (hb2.mono (by simp; omega))
          have p1 : w2.cell? ⟨wo.heap.size, 0, none⟩ = some (.int .i64 s) := hB2.cell 0
          have hB2lt := hB2.lt
          have H2 := Lib.hid (And.intro hB2 (And.intro hS2 (And.intro hM2 hbw2)))
          clear hb2 hB2 hS2 hM2 hbw2 c1 c2 c3
          by_cases ha : 1 ≤ a
          · have hv2 := hvp ha
            clear hvp hvn
            by_cases hs1 : s < 1
            · have HF : Hid (R = false) := Lib.hid (HX.out.2.2.2.2.2.2.1 (by rw [← Bool.not_eq_true]; intro h; have := goodI_iff.1 h; simp only at this; omega))
              go_wp2_with fail
              go_ret2
              exact ⟨by rw [HF.out]; rfl, H2.out.2.2.2⟩
            · by_cases hsN : (N : Int) ≤ s
              · have HF : Hid (R = false) := Lib.hid (HX.out.2.2.2.2.2.2.1 (by rw [← Bool.not_eq_true, ← H.out.2.2.2.2.2.1]; intro h; have := goodI_iff.1 h; simp only at this; omega))
                go_wp2_with fail
                go_ret2
                exact ⟨by rw [HF.out]; rfl, H2.out.2.2.2⟩
              · have hlook := H2.out.2.2.1.look (x := s) (by omega) (by omega)
                by_cases hin : s ∈ prev ts k
                · have HF : Hid (R = false) := Lib.hid (HX.out.2.2.2.2.2.2.1 (by rw [← Bool.not_eq_true]; intro h; have := goodI_iff.1 h; exact this.2.2.2.2 hin))
                  rw [decide_eq_true hin] at hlook
                  clear hin
                  go_wp2_with fail
                  go_ret2
                  exact ⟨by rw [HF.out]; rfl, H2.out.2.2.2⟩
                · rw [decide_eq_false hin] at hlook
                  have hgood : goodI N (prev ts k) (s, a, b) = true := goodI_iff.2 ⟨HS.out, ha, by simp only; omega, by simp only; omega, hin⟩
                  have hgk : goodTo N ts (k + 1) = true := by rw [goodTo_succ, HX.out.1, HX.out.2.2.2.2.1, hgood]; rfl
                  obtain ⟨w3, hrun, hM3, hg3⟩ := H2.out.2.2.1.store (x := s) (by omega) (by omega) (by omega)
                  obtain ⟨sn, rfl⟩ := Int.eq_ofNat_of_zero_le (show 0 ≤ s by omega)
                  obtain ⟨z, hz⟩ : ∃ z, c[sn]? = some z := ⟨_, List.getElem?_eq_getElem (by have := H.out.1; omega)⟩
                  have hzb := (valC_iff.1 H.out.2.2.2.2.2.2.1).2.2 z (List.mem_of_getElem? hz)
                  have hzv := nz_bd hv2 hzb
                  have hB3 : Blk w3 wo.heap.size 80 #[.int .i64 (sn : Int), .int .i64 a, .int .i64 b] := H2.out.1.grown hg3 (by simp; omega)
                  have hS3 : Blk w3 w1.heap.size 3 (arr (sRow ts k n)) := H2.out.2.1.grown hg3 (by simp)
                  have hbw3 : Below w.heap.size w w3 := H2.out.2.2.2.grown hg3 (by have := H2.out.2.2.2.size; omega) (fun i hi => by injection hi with hi; omega)
                  have c4 : w3.cell? (ac.add sn) = some (.int .i64 z) := (H.out.2.2.1.below hbw3).some2 sn _ (by simp [hz])
                  have q1 : w3.cell? ⟨wo.heap.size, 0, none⟩ = some (.int .i64 (sn : Int)) := hB3.cell 0
                  have htk : tI c ts (k + 1) = T + v * z := by
                    rw [tI, HX.out.2.2.2.2.1, ← HX.out.2.2.2.2.2.2.2, ← HV.out.1]
                    simp only [Int.toNat_natCast]
                    rw [List.getD_eq_getElem?_getD, hz]; rfl
                  have hsk : ∀ i, sI ts i (k + 1) = sI ts i k + v * (if sn.testBit i then 1 else 0 : Nat) := fun i => by
                    rw [sI, HX.out.2.2.2.2.1, ← HV.out.1]
                    simp only [Int.toNat_natCast]
                    split <;> rfl
                  obtain ⟨y, hy⟩ : ∃ y, y = v * z := ⟨_, rfl⟩
                  have hy2 : v * z = y := hy.symm
                  rw [hy2] at hzv htk
                  have e5 : wrap64 y = y := by rw [← wrapEq]; exact IntWalk.i64_in _ (by omega)
                  have hS3lt := hS3.lt
                  have hsz3 := hbw3.size
                  have H3 := Lib.hid (And.intro hB3 (And.intro hS3 (And.intro hM3 (And.intro hbw3 (And.intro htk (And.intro hsk (And.intro hgk hy)))))))
                  have hM3lt := hM3.lt
                  have hB3lt := hB3.lt
                  clear hB3 hS3 hM3 hbw3 htk hsk hgk hgood hz hg3 hin hy
                  go_wp2_with fail
                  clear hrun hlook hy2 e5 c4 p1
                  go_loopw [78] (fun jv wr => ∃ j : Nat, j ≤ n ∧ jv = .int .i64 j ∧ Blk wr w1.heap.size 3 (arr (sMix ts k j n)) ∧ SeenM wr (w1.heap.size + 1) (k + 1) (prev ts k ++ [(sn : Int)]) ∧ Blk wr wo.heap.size 80 #[.int .i64 (sn : Int), .int .i64 a, .int .i64 b] ∧ Below w.heap.size w wr) (fun jv _ => n - (intOf jv).toNat)
                  case atStart => exact ⟨0, Nat.zero_le _, rfl, by rw [sMix_zero]; exact H3.out.2.1, H3.out.2.2.1, H3.out.1, H3.out.2.2.2.1⟩
                  case round =>
                    obtain ⟨j, hj, rfl, hbS, hM, hB, hbl⟩ := hrel
                    by_cases hlj : j < n
                    · have hzz := sMix_get (ts := ts) (k := k) hlj
                      have hset := sMix_succ (ts := ts) (k := k) hlj
                      have ht0 := sI_bd (N := N) j HX.out.1
                      have hstep := H3.out.2.2.2.2.2.1 j
                      have hbit := and_shr sn j (by omega)
                      obtain ⟨zz, hze⟩ : ∃ zz, zz = sI ts j k := ⟨_, rfl⟩
                      rw [← hze] at hzz ht0 hstep
                      obtain ⟨bt, hbt⟩ : ∃ bt : Nat, bt = (if sn.testBit j then 1 else 0) := ⟨_, rfl⟩
                      have hb1 : bt ≤ 1 := by rw [hbt]; split <;> omega
                      rw [← hbt] at hbit hstep
                      have hvb : 0 ≤ v * (bt : Int) ∧ v * (bt : Int) ≤ 2772000000 := by
                        have : bt = 0 ∨ bt = 1 := by omega
                        rcases this with h | h <;> rw [h] <;> simp <;> omega
                      obtain ⟨vb, hvbe⟩ : ∃ vb, vb = v * (bt : Int) := ⟨_, rfl⟩
                      rw [← hvbe] at hstep hvb
                      rw [hstep] at hset
                      obtain ⟨z', hz'⟩ : ∃ z', z' = zz + vb := ⟨_, rfl⟩
                      rw [← hz'] at hset
                      have e1 : IntKind.i64.wrap vb = vb := IntWalk.i64_in _ (by omega)
                      have e2 : IntKind.i64.wrap (zz + vb) = z' := by rw [← hz']; exact IntWalk.i64_in _ (by omega)
                      have e3 : v * (bt : Int) = vb := hvbe.symm
                      have c1 : wr.cell? ⟨w1.heap.size, j, none⟩ = some (.int .i64 zz) := by rw [hbS.cell, arr_get, hzz]; rfl
                      have f1 : wr.frozen? ⟨w1.heap.size, j, none⟩ = false := hbS.frozen j
                      have q1 : wr.cell? ⟨wo.heap.size, 0, none⟩ = some (.int .i64 (sn : Int)) := hB.cell 0
                      have HN := Lib.hid (And.intro hset (And.intro hbS (And.intro hM (And.intro hB hbl))))
                      clear hzz hset ht0 hstep hze hbt hz' hvbe hbS hM hB hbl
                      go_wp2_with fail
                      go_region
                      go_wp2_with fail
                      go_roundw
                      case rel =>
                        refine ⟨j + 1, by omega, by go_num, ?_, ?_, ?_, HN.out.2.2.2.2.drew.setCell (by omega) _⟩
                        · rw [HN.out.1, ← arr_set]
                          exact Blk.set_ (w := wr.drew) HN.out.2.1 j _
                        · exact HN.out.2.2.1.kept (Below.heap_setCell wr.drew _ _ _ (by simp))
                        · exact Blk.far (w := wr.drew) HN.out.2.2.2.1 (by simp; omega) _
                      case measure => simp [intOf]; omega
                    · obtain rfl : n = j := by omega
                      rw [sMix_full] at hbS
                      have HN := Lib.hid (And.intro hbS (And.intro hM hbl))
                      clear hbS hM hB hbl
                      go_wp2_with fail
                      go_roundw
                      case rel => exact ⟨k + 1, by omega, by go_num, by rw [H3.out.2.2.2.2.1, H3.out.2.2.2.2.2.2.2], H3.out.2.2.2.2.2.2.1, HN.out.1, by rw [HX.out.2.2.2.2.2.1]; exact HN.out.2.1, HN.out.2.2⟩
                      case measure => simp [intOf]; omega
          · have hv2 := hvn (by omega)
            clear hvp hvn
            have HF : Hid (R = false) := Lib.hid (HX.out.2.2.2.2.2.2.1 (by rw [← Bool.not_eq_true]; intro h; have := goodI_iff.1 h; simp only at this; omega))
            go_wp2_with fail
            go_ret2
            exact ⟨by rw [HF.out]; rfl, H2.out.2.2.2⟩
      · obtain rfl : m = k := by omega
        obtain ⟨n1, hn1⟩ : ∃ n1, n1 + 1 = N := ⟨N - 1, by omega⟩
        obtain ⟨x, hx⟩ : ∃ x, c[n1]? = some x := ⟨_, List.getElem?_eq_getElem (by have := H.out.1; omega)⟩
        have hxb := (valC_iff.1 H.out.2.2.2.2.2.2.1).2.2 x (List.mem_of_getElem? hx)
        have c1 : wo.cell? (ac.add n1) = some (.int .i64 x) := (H.out.2.2.1.below hbl).some2 n1 _ (by simp [hx])
        have hones : (sRow ts m n).all (fun x => x == 27720) = onesI ts n := by rw [← ones_row, H.out.2.1]
        have hRe : R = (onesI ts n && decide (tI c ts m < x * 27720)) := by
          rw [HR.out]
          unfold refI
          rw [H.out.2.1, ← H.out.2.2.2.2.2.1, decide_eq_true (by omega), hg, show N - 1 = n1 from by omega, List.getD_eq_getElem?_getD, hx]
          rfl
        have hSi : Ints wo (some ⟨w1.heap.size, 0, none⟩) (sRow ts m n) := blk_ints hS
        obtain ⟨T, hT⟩ : ∃ T, T = tI c ts m := ⟨_, rfl⟩
        rw [← hT] at htb hRe ⊢
        have HX := Lib.hid (And.intro hbl (And.intro hones (And.intro hRe hSi)))
        clear hg hS hM hbl hx hones hRe hSi hT
        go_wp2_with fail
        refine (containsF_any _ n n (sRow ts m n) _ (sRow_length _ _ _) (by omega) HX.out.2.2.2).mono ?_
        rintro e w' ⟨rfl, rfl⟩
        rw [HX.out.2.1]
        cases ho : onesI ts n
        · have HF : Hid (R = false) := Lib.hid (by rw [HX.out.2.2.1, ho]; rfl)
          clear ho
          go_wp2_with fail
          go_ret2
          exact ⟨by rw [HF.out]; rfl, HX.out.1⟩
        · have HF : Hid (R = decide (T < x * 27720)) := Lib.hid (by rw [HX.out.2.2.1, ho]; rfl)
          clear ho
          go_wp2_with fail
          refine (all_any ac N n1 _ x _ hn1 hN16.2 c1).mono ?_
          rintro e w' ⟨rfl, rfl⟩
          go_wp2_with fail
          go_ret2
          exact ⟨by rw [HF.out]; rfl, HX.out.1⟩

theorem checkrefute_any (C : Option Addr) (N capc : Nat) (A : Option Addr) (m cap : Nat) (c : List Int) (ts : List Pt) (w : World) (hlc : c.length = N) (hNm : N ≤ 9223372036854775807) (hl : ts.length = m) (hm : m ≤ 9223372036854775807)
    (hc : Ints w C c) (h : Tps w A ts) (hr : ∀ t ∈ ts, (-9223372036854775808 ≤ t.1 ∧ t.1 ≤ 9223372036854775807) ∧ (-9223372036854775808 ≤ t.2.1 ∧ t.2.1 ≤ 9223372036854775807) ∧ -9223372036854775808 ≤ t.2.2 ∧ t.2.2 ≤ 9223372036854775807) :
    Calls Try.prog 43 #[.slice C N capc, .slice A m cap] w fun e w' => e = .returned (.tuple #[.bool (crB c ts), .int .i64 (ccE c)]) ∧ Below w.heap.size w w' := by
  cases hv : valC c
  · have HG : Hid (crB c ts = false ∧ ccE c = 2) := Lib.hid ⟨by simp [crB, hv], by simp [ccE, hv]⟩
    have H := Lib.hid (And.intro hlc (And.intro hc hv))
    clear hlc hl hc h hr hv
    go_enter Try.func43, Try.ntmps43
    go_wp2_with fail
    refine (valid_any C N capc c _ H.out.1 hNm H.out.2.1).mono ?_
    rintro e w1 ⟨rfl, hb⟩
    rw [H.out.2.2]
    have HB := Lib.hid hb
    clear hb
    go_wp2_with fail
    go_ret2
    exact ⟨by rw [HG.out.1, HG.out.2]; rfl, HB.out⟩
  · obtain ⟨ac, rfl, _, _⟩ := hc.some_ (by have := (valC_iff.1 hv).1; omega)
    have e1 : crB c ts = refI c ts (plr c) := by simp [crB, hv]
    have e2 : ccE c = 0 := by simp [ccE, hv]
    rw [e1, e2]
    exact checkrefute_ok ac N capc A m cap (plr c) c ts w hlc hv rfl hl hm hc h hr

/- Contract: the function that Refute of package games calls for each choice of sets. -/

/-- A player as the row of a system. -/
def colL (sets : List Nat) (i : Nat) : List Int := sets.map (fun s => bitI s i) ++ [1]
/-- The system of a choice of sets: each player is in sets whose shares sum to 1. -/
def sysR (n : Nat) (sets : List Nat) : List (List Int) := (List.range n).map (colL sets)
theorem colL_length (sets : List Nat) (i : Nat) : (colL sets i).length = sets.length + 1 := by simp [colL]
/-- The sets with shares that are not 0. -/
def tsTo (h : Nat → Nat → Int) (l : Int) (n : Nat) (sets : List Nat) : Nat → List Pt
  | 0 => []
  | i + 1 => tsTo h l n sets i ++ if h i n = 0 then [] else [(((sets.getD i 0 : Nat) : Int), (solQ (h i n) l).num, ((solQ (h i n) l).den : Int))]
/-- The collection of a choice of sets, if it refutes. -/
def candR (c : List Int) (n : Nat) (sets : List Nat) : Option (List Pt) :=
  match slvTo (entry (sysR n sets)) n n with
  | none => none
  | some (h, l) => if crB c (tsTo h l n sets n) then some (tsTo h l n sets n) else none

theorem sysR_bd (n : Nat) (sets : List Nat) (hl : sets.length = n) : BdM 1 1000 (entry (sysR n sets)) n := by
  have e : ∀ i, i < n → (sysR n sets).getD i [] = colL sets i := by
    intro i hi
    unfold sysR; rw [List.getD_eq_getElem?_getD]; simp [hi]
  refine ⟨fun i j hi hj => ?_, fun i hi => ?_⟩
  · unfold entry
    rw [e i hi]
    unfold colL
    rw [List.getD_eq_getElem?_getD, List.getElem?_append_left (by simpa using by omega), List.getElem?_map, List.getElem?_eq_getElem (by omega)]
    simp only [Option.map_some, Option.getD_some]
    rcases bitI_cases (sets[j]'(by omega)) i with h | h <;> rw [h] <;> decide
  · unfold entry
    rw [e i hi]
    unfold colL
    rw [List.getD_eq_getElem?_getD, List.getElem?_append_right (by simp; omega)]
    simp [hl]
theorem make_sys (n : Nat) (hn : n ≤ 1000000) (w : World) : (Instr.makeSlice 88 (.int .i64 n) (.int .i64 n)).run Try.prog w = .ok (.slice (some ⟨w.heap.size, 0, none⟩) n n) (w.alloc (.cells (Array.replicate n (Value.slice none 0 0)) 22)) := by
  obtain ⟨i0, hi, hz0, hz1, hz2⟩ := info_parts info_ints
  have hr := run_make (P := Try.prog) w 88 22 i0 (.slice none 0 0) Try.underlying88 hi hz0 .i64 .i64 n n (by omega) (by omega) (by rw [hz2]; omega) (by omega)
  simp only [Int.toNat_natCast, hz1] at hr
  rw [hr]
  have e : madeCells (Value.slice none 0 0).cells (n * 1) = Array.replicate n (Value.slice none 0 0) := by
    apply Array.ext'
    show (madeCells #[Value.slice none 0 0] (n * 1)).toList = _
    rw [toList_madeCells_one]; simp
  rw [e]
theorem ORows.belowB {w w' : World} {base b : Nat} {vs : List Value} {L : List (List Int)} (h : ORows w base vs L) (hlt : ∀ (i : Nat) (a : Addr) (n c : Nat), vs[i]? = some (.slice (some a) n c) → a.block < b) (hb : Below b w w') : ORows w' base vs L := by
  refine ⟨h.1, fun j os hj => ?_, h.2.2⟩
  obtain ⟨A, c, h1, h2⟩ := h.2.1 j os hj
  refine ⟨A, c, h1, h2.1, ?_⟩
  rcases h2.2 with h0 | ⟨g, cap, cur, hv, a1, a2, a3⟩
  · exact .inl h0
  · refine .inr ⟨g, cap, cur, hv, a1, ?_, a3⟩
    injection hv with e1 e2 e3
    have := hlt j ⟨g, 0, none⟩ os.length c (by rw [h1, e1])
    exact (hb.block g this).trans a2
theorem ORows.setC {w : World} {base g : Nat} {vs : List Value} {L : List (List Int)} {cs : Array Value} (h : ORows w base vs L) (hg : Blk w g 22 cs) (i : Nat) (v : Value) : ORows (w.setCell ⟨g, i, none⟩ v) base vs L := by
  refine ⟨h.1, fun j os hj => ?_, h.2.2⟩
  obtain ⟨A, c, h1, h2⟩ := h.2.1 j os hj
  refine ⟨A, c, h1, h2.1, ?_⟩
  rcases h2.2 with h0 | ⟨g', cap, cur, hv, a1, a2, a3⟩
  · exact .inl h0
  · refine .inr ⟨g', cap, cur, hv, a1, ?_, a3⟩
    have hne : g' ≠ g := by
      rintro rfl
      unfold Blk at hg
      rw [hg] at a2
      injection a2 with a2
      injection a2 with _ a2 _
      exact absurd a2 (by decide)
    exact (Below.heap_setCell w _ v g' hne).trans a2
theorem own_setC {w : World} {base g : Nat} {v' : Value} {n : Nat} {xs : List Value} {cs : Array Value} (h : w.ownsRow base 3 1 v' n xs) (hg : Blk w g 22 cs) (i : Nat) (v : Value) : (w.setCell ⟨g, i, none⟩ v).ownsRow base 3 1 v' n xs := by
  refine ⟨h.1, ?_⟩
  rcases h.2 with h0 | ⟨g', cap, cur, hv, a1, a2, a3⟩
  · exact .inl h0
  · refine .inr ⟨g', cap, cur, hv, a1, ?_, a3⟩
    have hne : g' ≠ g := by
      rintro rfl
      unfold Blk at hg
      rw [hg] at a2
      injection a2 with a2
      injection a2 with _ a2 _
      exact absurd a2 (by decide)
    exact (Below.heap_setCell w _ v g' hne).trans a2

/-- The rows while they are made: those up to i are done, row i holds so far D, the later ones nothing. -/
structure MkR (w0 w : World) (g n i b : Nat) (sets : List Nat) (vs : List Value) (D : Value) : Prop where
  len : vs.length = n
  blk : Blk w g 22 vs.toArray
  at_ : vs[i]? = some D
  done : ORows w w0.heap.size (vs.take i) ((List.range i).map (colL sets))
  rest : ∀ a, i < a → a < n → vs[a]? = some (.slice none 0 0)
  lt : ∀ (j : Nat) (a : Addr) (n c : Nat), (vs.take i)[j]? = some (.slice (some a) n c) → a.block < b
  gb : g < b
  below : Below w0.heap.size w0 w
  wb : b ≤ w.heap.size
theorem MkR.step {w0 w w' : World} {g n i b : Nat} {sets : List Nat} {vs : List Value} {D D' : Value} (h : MkR w0 w g n i b sets vs D) (hi : i < n) (hg0 : w0.heap.size ≤ g) (hb : Below b w w') : MkR w0 (w'.setCell ⟨g, i, none⟩ D') g n i b sets (vs.set i D') D' := by
  have hB := h.blk.below hb h.gb
  refine ⟨by rw [List.length_set]; exact h.len, ?_, ?_, ?_, fun a h1 h2 => ?_, ?_, h.gb, ?_, ?_⟩
  · have := hB.set_ i D'
    rw [List.setIfInBounds_toArray] at this
    exact this
  · rw [List.getElem?_set_self (by rw [h.len]; exact hi)]
  · rw [List.take_set_of_le (Nat.le_refl i)]
    exact (h.done.belowB h.lt hb).setC hB i D'
  · rw [List.getElem?_set_ne (by omega)]; exact h.rest a h1 h2
  · rw [List.take_set_of_le (Nat.le_refl i)]; exact h.lt
  · exact (h.below.trans (hb.mono (by have := h.below.size; have := h.gb; omega))).setCell hg0 _
  · have := hb.size; have := h.wb; simp [World.setCell]; omega
end Go.Proofs.Ytbidboagaoifaaa
