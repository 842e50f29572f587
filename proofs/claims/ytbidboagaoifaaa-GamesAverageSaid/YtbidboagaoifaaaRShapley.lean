/- Contract: Shapley of package corrodyref07, of valid costs. -/
import Derived.Test.YtbidboagaoifaaaROrders
import Derived.Test.YtbidboagaoifaaaRJoin
import Derived.Test.YtbidboagaoifaaaPlayers
import Derived.Test.YtbidboagaoifaaaShapley
namespace Go.Proofs.Ytbidboagaoifaaa
open Go.RowKit

theorem zs_get {L : List (List Nat)} {j : Nat} {os : List Nat} (h : L[j]? = some os) : (zs L)[j]? = some (os.map Int.ofNat) := by simp [zs, h]
/-- A row of the list of orders, behind what leaves it alone. -/
theorem Row1.kept {w w' : World} {B b lo : Nat} {S : List Nat} {v : Value} {os : List Int} (h : Row1 w b v os) (hk : Kept B S w w') (hB : w.heap.size ≤ B) (hlo : ∀ ad n c, v = .slice (some ad) n c → lo ≤ ad.block) (hS : ∀ x ∈ S, x < lo) :
    ∃ A c, v = .slice A os.length c ∧ os.length ≤ c ∧ c ≤ 9223372036854775807 ∧ Ints w' A os := by
  obtain ⟨A, c, hv, h1, h2, h3, _⟩ := h
  refine ⟨A, c, hv, h1, h2, fun i u hu => ?_⟩
  obtain ⟨ad, hA, hc⟩ := h3 i u hu
  refine ⟨ad, hA, ?_⟩
  have hlt := lt_of_cell hc
  have := hlo ad _ _ (by rw [← hA]; exact hv)
  rw [hk.cell (by omega) (fun hm => by have := hS _ hm; rw [add_block] at this; omega)]
  exact hc

set_option maxRecDepth 100000 in
set_option maxHeartbeats 4000000 in
theorem rshapley_ok (ac : Addr) (N cap : Nat) (c : List Int) (w : World) (hl : c.length = N) (hv : valC c = true) (hI : Ints w (some ac) c) :
    Calls Try.prog 30 #[.slice (some ac) N cap] w fun e w' => ∃ A' c', e = .returned (.slice A' (plr c) c') ∧ w'.ownsRow w.heap.size 31 2 (.slice A' (plr c) c') (plr c) (fcells (shapL c (plr c))) ∧ Below w.heap.size w w' := by
  have hnp := plr_np hv
  rw [hl] at hnp
  have hp := valC_pow hv
  obtain ⟨n, hn⟩ : ∃ n, n = plr c := ⟨_, rfl⟩
  rw [← hn] at hnp hp ⊢
  have hn4 : n ≤ 4 := by omega
  have hn0 : 1 ≤ n := by omega
  have hN16 : N ≤ 16 := by omega
  have hmk := make_ints n (by omega)
  have hcb := (valC_iff.1 hv).2.2
  have hel := ext_len hn4
  have hac : ac.block < w.heap.size := by
    obtain ⟨ad, h, hb, _⟩ := hI.some_ (by omega)
    injection h with h; subst h; exact hb
  have H := Lib.hid (And.intro hI (And.intro hl (And.intro hn (And.intro hp (And.intro hcb hac)))))
  clear hI hl hv hnp hp hn hcb hac
  go_enter Try.func30, Try.ntmps30
  go_wp2_with fail
  refine (rplayers_any (some ac) N cap c _ H.out.2.1 (by omega) H.out.1).mono ?_
  rintro e w' ⟨rfl, rfl⟩
  rw [← H.out.2.2.1]
  go_wp2_with fail
  refine (rorders_any n hn4 n [] 0 none 0 _ (w.heap.size + 1) (w.heap.size + 1) rfl (by omega) (by omega) (by omega) (fun _ => ⟨rfl, rfl⟩) (by simp) (by simp) (fun _ h => by cases h) ⟨none, 0, rfl, by simp, by omega, Ints.nil, fun _ h => by cases h⟩ (by simp)).mono ?_
  rintro e w2 ⟨A2, k2, vs, rfl, hown2, hrows2, hlo2, hbl2⟩
  have hz1 : (w.alloc (.cells (arr (List.replicate n 0)) 3)).heap.size = w.heap.size + 1 := by simp
  rw [hz1] at hbl2 hown2
  have hbS2 : Blk w2 w.heap.size 3 (arr (List.replicate n 0)) := (Blk.new _ _ _ rfl).below hbl2 (by omega)
  have hW2 : Below w.heap.size w w2 := ((Below.refl _ _).alloc (Nat.le_refl _) _).trans (hbl2.mono (by omega))
  obtain ⟨L, hL⟩ : ∃ L, L = ext n n [] := ⟨_, rfl⟩
  have hmemL := ext_mem (n := n) (m := n) (pre := []) (by simp)
  rw [← hL] at hel hmemL hown2 hrows2 ⊢
  have hLl : L.length ≤ 24 ∧ 1 ≤ L.length := by omega
  obtain ⟨q, hq⟩ : ∃ q, q = L.length := ⟨_, rfl⟩
  rw [← hq] at hown2 hLl ⊢
  have hzz := hbS2.lt
  have hA2 : ∃ g2, A2 = some ⟨g2, 0, none⟩ ∧ w.heap.size + 1 ≤ g2 ∧ g2 < w2.heap.size := own_some hown2 (by omega)
  obtain ⟨g2, rfl, hg2, hg2'⟩ := hA2
  have hcells := own_cells hown2
  have hvl : vs.length = q := by have := hown2.1; omega
  have H2 := Lib.hid (And.intro hbS2 (And.intro hrows2 (And.intro hlo2 (And.intro hW2 (And.intro hL (And.intro hmemL (And.intro hcells (And.intro hvl hq))))))))
  clear hbS2 hrows2 hlo2 hW2 hmemL hcells hown2 hbl2 hvl hel hq hL
  go_wp2_with fail
  go_loopw [21] (fun jv wr => ∃ j : Nat, j ≤ q ∧ jv = .int .i64 j ∧ Blk wr w.heap.size 3 (arr (addAll c n (List.replicate n 0) (L.take j))) ∧ Kept w2.heap.size [w.heap.size] w2 wr) (fun jv _ => q - (intOf jv).toNat)
  case atStart => exact ⟨0, Nat.zero_le _, rfl, H2.out.1, Kept.refl _ _ _⟩
  case round =>
    obtain ⟨j, hj, rfl, hbS, hK⟩ := hrel
    obtain ⟨wo, rfl⟩ : ∃ wo : World, wo = wr := ⟨_, rfl⟩
    by_cases hlt : j < q
    · obtain ⟨hbS2, hrows2, hlo2, hW2, hL, hmemL, hcells, hvl, hq⟩ := H2.out
      obtain ⟨os, hos⟩ : ∃ os, L[j]? = some os := ⟨_, List.getElem?_eq_getElem (by omega)⟩
      obtain ⟨v, hvj, hrow⟩ := hrows2.2 j _ (zs_get hos)
      have hvm := List.mem_of_getElem? hvj
      obtain ⟨A3, c3, rfl, h31, h32, hI3⟩ := hrow.kept hK (Nat.le_refl _) (hlo2 v hvm) (lo := w.heap.size + 1) (by simp)
      have hosm := hmemL os (List.mem_of_getElem? hos)
      have hosl : os.length = n := by have := hosm.1; simp at this; omega
      have hol : (os.map Int.ofNat).length = n := by simpa using hosl
      rw [hol] at h31 hvj
      obtain ⟨ad3, rfl, _, hc3⟩ := hI3.some_ (by omega)
      have hcj := (hK.cell (p := (⟨g2, 0, none⟩ : Addr).add j) (by rw [add_block]; exact hg2') (by rw [add_block]; simp; omega)).trans (hcells j _ hvj)
      have hcc : ∀ i x, c[i]? = some x → wo.cell? (ac.add i) = some (.int .i64 x) := fun i x hi => by
        have h0 := H.out.1.some2 i (.int .i64 x) (by simp [hi])
        have h1 := lt_of_cell h0
        have h2 := (hW2.cell h1).trans h0
        rw [hK.cell (lt_of_cell h2) (by rw [add_block] at h1 ⊢; simp; omega)]
        exact h2
      have hcj' : wo.cell? ⟨g2, j, none⟩ = some (.slice (some ad3) n c3) := by
        rw [← hcj]; congr 1; unfold Addr.add; split
        · rename_i h; subst h; rfl
        · simp
      have HS : Hid (L.take (j + 1) = L.take j ++ [os]) := Lib.hid (by rw [List.take_add_one, hos]; rfl)
      have hco3 : ∀ i x, os[i]? = some x → wo.cell? (ad3.add i) = some (.int .i64 (x : Nat)) := fun i x hx => hc3 i (x : Nat) (by simp [hx])
      have hosm2 := hosm.2
      have H3 := Lib.hid (And.intro hbS (And.intro hK (And.intro hcc (And.intro hco3 (And.intro hosl hosm2)))))
      have hwz : w2.heap.size ≤ wo.heap.size := hK.size
      clear hbS2 hrows2 hlo2 hW2 hL hmemL hcells hvl hq hos hvj hrow hvm hI3 hosm hosl hol hc3 hcj hcc hco3 hosm2 hbS hK
      go_wp2_with fail
      refine (rjoin_any ad3 ac N cap n c3 c os _ hn4 (by rw [← H.out.2.1]; exact H.out.2.2.2.1.1) H.out.2.1 H3.out.2.2.2.2.1 H3.out.2.2.1 H3.out.2.2.2.1 H3.out.2.2.2.2.2 H.out.2.2.2.2.1).mono ?_
      rintro e w3 ⟨rfl, hJ, hb3⟩
      have hjl : (joinL c os).length = n := by
        have := (joinP_bd c n os H3.out.2.2.2.2.2).2
        rw [joinL, H3.out.2.2.2.2.1]; exact this
      have hjb := joinL_bd H.out.2.2.2.2.1 os
      obtain ⟨js, hjs⟩ : ∃ js, js = joinL c os := ⟨_, rfl⟩
      rw [← hjs] at hJ hjl hjb
      obtain ⟨sums, hsums⟩ : ∃ s, s = addAll c n (List.replicate n 0) (L.take j) := ⟨_, rfl⟩
      have hbS3 : Blk w3 w.heap.size 3 (arr sums) := by rw [hsums]; exact H3.out.1.below hb3 H3.out.1.lt
      have hsl : sums.length = n := by rw [hsums, addAll_length]; simp
      have hsb : ∀ y ∈ sums, -30000 ≤ y ∧ y ≤ 30000 := by
        intro y hy
        rw [hsums] at hy
        have := addAll_bd H.out.2.2.2.2.1 n (L.take j) (List.replicate n 0) 0 (by omega) (by intro z hz; rw [List.mem_replicate] at hz; omega) y hy
        have h2 : (L.take j).length ≤ 24 := by rw [List.length_take]; omega
        omega
      have hSlt : w.heap.size < wo.heap.size := H3.out.1.lt
      have H4 := Lib.hid (And.intro hJ (And.intro hjl (And.intro hjb (And.intro hjs (And.intro hbS3 (And.intro hsl (And.intro hsb (And.intro hsums hb3))))))))
      clear hJ hjl hjb hjs hbS3 hsl hsb hsums hb3
      go_wp2_with fail
      go_loopw [29] (fun iv wr => ∃ k : Nat, k ≤ n ∧ iv = .int .i64 k ∧ Blk wr w.heap.size 3 (arr (addUp sums js k)) ∧ Kept wo.heap.size [w.heap.size] wo wr ∧ Blk wr wo.heap.size 3 (arr js)) (fun iv _ => n - (intOf iv).toNat)
      case atStart => exact ⟨0, Nat.zero_le _, rfl, H4.out.2.2.2.2.1, Kept.of_below H4.out.2.2.2.2.2.2.2.2 _, H4.out.1⟩
      case round =>
        obtain ⟨k, h1, rfl, bS, hK, bJ⟩ := hrel
        by_cases hlk : k < n
        · have hul : k < (addUp sums js k).length := by rw [addUp_length, H4.out.2.2.2.2.2.1]; exact hlk
          obtain ⟨x, hx⟩ : ∃ x, js[k]? = some x := ⟨_, List.getElem?_eq_getElem (by rw [H4.out.2.1]; exact hlk)⟩
          obtain ⟨z, hz⟩ : ∃ x, (addUp sums js k)[k]? = some x := ⟨_, List.getElem?_eq_getElem hul⟩
          have hxb := H4.out.2.2.1 x (List.mem_of_getElem? hx)
          have hzb := addUp_bd H4.out.2.2.2.2.2.2.1 H4.out.2.2.1 (by omega) k z (List.mem_of_getElem? hz)
          have c1 : wr.cell? ⟨wo.heap.size, k, none⟩ = some (.int .i64 x) := by rw [bJ.cell, arr_get, hx]; rfl
          have c2 : wr.cell? ⟨w.heap.size, k, none⟩ = some (.int .i64 z) := by rw [bS.cell, arr_get, hz]; rfl
          have f2 : wr.frozen? ⟨w.heap.size, k, none⟩ = false := bS.frozen k
          have HNEW : Hid (addUp sums js (k + 1) = (addUp sums js k).set k (z + x)) := Lib.hid (by
            rw [addUp, List.getD_eq_getElem?_getD, List.getD_eq_getElem?_getD, hz, hx]; rfl)
          have H5 := Lib.hid (And.intro bS (And.intro hK bJ))
          clear bS hK bJ hx hz hul
          go_wp2
          go_roundw
          case rel =>
            obtain ⟨bS, hK, bJ⟩ := H5.out
            refine ⟨k + 1, by omega, by go_num, ?_, hK.setCell (.inl (by simp)) _, bJ.far (by show wo.heap.size ≠ w.heap.size; omega) _⟩
            rw [HNEW.out, ← arr_set]
            exact bS.set_ k _
          case measure => simp [intOf]; omega
        · obtain rfl : k = n := by omega
          have H5 := Lib.hid (And.intro bS hK)
          clear bS hK bJ
          go_wp2_with fail
          go_roundw
          case rel =>
            refine ⟨j + 1, by omega, by go_num, ?_, H3.out.2.1.trans (H5.out.2.mono hwz (by simp))⟩
            rw [HS.out, addAll_append, ← H4.out.2.2.2.2.2.2.2.1]
            show Blk _ _ _ (arr (addUp sums (joinL c os) k))
            rw [← H4.out.2.2.2.1]
            exact H5.out.1
          case measure => simp [intOf]; omega
    · obtain rfl : j = q := by omega
      have hfull : L.take j = L := List.take_of_length_le (by have := H2.out.2.2.2.2.2.2.2.2; omega)
      rw [hfull] at hbS
      have hss : addAll c n (List.replicate n 0) L = sumsL c n := by rw [H2.out.2.2.2.2.1]; rfl
      rw [hss] at hbS
      have hbw : Below w.heap.size w wo := H2.out.2.2.2.1.trans (hK.mono (B' := w.heap.size) (S' := []) (by omega) (by simp)).below
      have hj24 : (1 : Int) ≤ (j : Int) ∧ (j : Int) ≤ 24 := by omega
      have hsd := sums_bd H.out.2.2.2.2.1 hn4
      have hcn : (ext n n []).length = j := by have := H2.out.2.2.2.2.2.2.2.2; rw [H2.out.2.2.2.2.1] at this; exact this.symm
      have H6 := Lib.hid (And.intro hbS (And.intro hbw (And.intro hsd hcn)))
      have hSlt : w.heap.size < wo.heap.size := hbS.lt
      clear hfull hss hbS hbw hsd hcn hK
      go_wp2_with fail
      go_loopw [10, 45] (fun ov iv wr => ∃ (k : Nat) (A : Option Addr) (cp : Nat), k ≤ n ∧ iv = .int .i64 k ∧ ov = .slice A k cp ∧ wr.ownsRow wo.heap.size 31 2 (.slice A k cp) k (fcells ((shapL c n).take k)) ∧ Below wo.heap.size wo wr) (fun _ iv _ => n - (intOf iv).toNat)
      case atStart => exact ⟨0, none, 0, Nat.zero_le _, rfl, rfl, by simpa [fcells] using World.ownsRow_nil _ _ _ _, Below.refl _ _⟩
      case round =>
        obtain ⟨k, A, cp, hkn, rfl, rfl, hown, hbl⟩ := hrel
        by_cases hlk : k < n
        · have hsl : (sumsL c n).length = n := by unfold sumsL; rw [addAll_length]; simp
          obtain ⟨x, hx⟩ : ∃ x, (sumsL c n)[k]? = some x := ⟨_, List.getElem?_eq_getElem (by rw [hsl]; exact hlk)⟩
          have hxb := H6.out.2.2.1 x (List.mem_of_getElem? hx)
          have c1 : wr.cell? ⟨w.heap.size, k, none⟩ = some (.int .i64 x) := by
            rw [(H6.out.1.below hbl hSlt).cell, arr_get, hx]; rfl
          have hq : (shapL c n)[k]? = some (Rat.divInt x j) := by unfold shapL; rw [List.getElem?_map, hx, H6.out.2.2.2]; rfl
          have HNEW : Hid (fcells ((shapL c n).take (k + 1)) = fcells ((shapL c n).take k) ++ [.int .i64 (Rat.divInt x j).num, .int .i64 ((Rat.divInt x j).den : Int)]) := Lib.hid (by
            rw [List.take_add_one, hq]; exact fcells_snoc _ _)
          have HR := Lib.hid (And.intro hown hbl)
          clear hown hbl hx hq hsl
          go_wp2_with fail
          refine (rof_any x j _ (by omega) (by omega) (by omega) (by omega)).mono ?_
          rintro e w3 ⟨rfl, hb3⟩
          generalize Rat.divInt x (j : Int) = q at HNEW ⊢
          have hown3 := own_below HR.out.1 hb3
          have hbl3 : Below wo.heap.size wo w3 := HR.out.2.trans (hb3.mono HR.out.2.size)
          have HR3 := Lib.hid (And.intro hown3 hbl3)
          have hw3 : wo.heap.size ≤ w3.heap.size := hbl3.size
          clear hown3 hbl3 hb3
          unfold fr
          go_wp2_with (at_builtin; refine app1 sty_frac rfl _ _ rfl wo.heap.size A k cp _ #[.int .i64 q.num, .int .i64 (q.den : Int)] rfl (by simp [Value.oneCell']) rfl HR3.out.1 rfl (by omega) hw3 ?_)
          intro A4 k4 w4 hown4 _ hbl4 hk41 hk42
          rw [← HNEW.out] at hown4
          have HR4 := Lib.hid (And.intro hown4 (HR3.out.2.trans hbl4))
          clear hown4 hbl4
          go_wp2
          go_roundw
          case rel => exact ⟨k + 1, A4, k4, by omega, by go_num, rfl, HR4.out.1, HR4.out.2⟩
          case measure => simp [intOf]; omega
        · obtain rfl : k = n := by omega
          have HR := Lib.hid (And.intro hown (H6.out.2.1.trans (hbl.mono (by omega))))
          clear hown hbl
          go_wp2
          go_ret
          refine ⟨A, cp, rfl, ?_, HR.out.2⟩
          have h := own_mono HR.out.1 (Nat.le_of_lt hSlt)
          rwa [List.take_of_length_le (by rw [shapL_length]; exact Nat.le_refl _)] at h
end Go.Proofs.Ytbidboagaoifaaa
