/- Contract: the function that games.Shapley calls for each order. -/
import Derived.Test.YtbidboagaoifaaaJoin
import Derived.Test.YtbidboagaoifaaaShapLaw
namespace Go.Proofs.Ytbidboagaoifaaa
open Go.RowKit

set_option maxHeartbeats 800000 in
theorem shapley1_any (ad ac : Addr) (N cap n cap' Bc Bk Bs S : Nat) (c : List Int) (os : List Nat) (cnt : Int) (sums : List Int) (w : World)
    (hn : n ≤ 4) (hN : N = 2 ^ n) (hl : c.length = N) (hol : os.length = n) (hsl : sums.length = n)
    (hc : ∀ i x, c[i]? = some x → w.cell? (ac.add i) = some (.int .i64 x)) (ho : ∀ i x, os[i]? = some x → w.cell? (ad.add i) = some (.int .i64 (x : Nat)))
    (hos : ∀ x ∈ os, x < n) (hcb : ∀ x ∈ c, 0 ≤ x ∧ x ≤ 1000) (hcnt : 0 ≤ cnt ∧ cnt ≤ 1000) (hsb : ∀ y ∈ sums, -(1000 * cnt) ≤ y ∧ y ≤ 1000 * cnt)
    (bc : Blk w Bc 3 #[.int .i64 cnt]) (bk : Blk w Bk 69 #[.slice (some ac) N cap]) (bs : Blk w Bs 22 #[.slice (some ⟨S, 0, none⟩) n n]) (bS : Blk w S 3 (arr sums))
    (n1 : ac.block ≠ Bc) (n2 : ad.block ≠ Bc) (n3 : Bk ≠ Bc) (n4 : Bs ≠ Bc) (n5 : S ≠ Bc) (n6 : Bs ≠ S) :
    Calls Try.prog 59 #[.slice (some ad) n cap', .pointer (some ⟨Bc, 0, none⟩), .pointer (some ⟨Bk, 0, none⟩), .pointer (some ⟨Bs, 0, none⟩)] w fun e w' =>
      e = .returned (.tuple #[]) ∧ Blk w' Bc 3 #[.int .i64 (cnt + 1)] ∧ Blk w' S 3 (arr (addUp sums (joinL c os) n)) ∧ Kept w.heap.size [Bc, S] w w' := by
  obtain ⟨k0, k1⟩ := bk.at1
  obtain ⟨q0, q1⟩ := bc.at1
  have hbc := bc.lt
  have W1 : Kept w.heap.size [Bc, S] w (w.setCell ⟨Bc, 0, none⟩ (.int .i64 (cnt + 1))) := (Kept.refl _ _ _).setCell (.inl (by simp)) _
  have bk1 : Blk (w.setCell ⟨Bc, 0, none⟩ (.int .i64 (cnt + 1))) Bk 69 #[.slice (some ac) N cap] := bk.far n3 _
  have bs1 : Blk (w.setCell ⟨Bc, 0, none⟩ (.int .i64 (cnt + 1))) Bs 22 #[.slice (some ⟨S, 0, none⟩) n n] := bs.far n4 _
  have bS1 : Blk (w.setCell ⟨Bc, 0, none⟩ (.int .i64 (cnt + 1))) S 3 (arr sums) := bS.far n5 _
  have bc1 : Blk (w.setCell ⟨Bc, 0, none⟩ (.int .i64 (cnt + 1))) Bc 3 #[.int .i64 (cnt + 1)] := bc.set_ 0 _
  have cell1 : ∀ (p : Addr) (v : Value), p.block ≠ Bc → w.cell? p = some v → (w.setCell ⟨Bc, 0, none⟩ (.int .i64 (cnt + 1))).cell? p = some v := fun p v hp hv => (World.cell?_of_block (w := w) (Below.heap_setCell w ⟨Bc, 0, none⟩ _ p.block hp)).trans hv
  have hc1 : ∀ i x, c[i]? = some x → (w.setCell ⟨Bc, 0, none⟩ (.int .i64 (cnt + 1))).cell? (ac.add i) = some (.int .i64 x) := fun i x hx => cell1 _ _ (by rw [add_block]; exact n1) (hc i x hx)
  have ho1 : ∀ i x, os[i]? = some x → (w.setCell ⟨Bc, 0, none⟩ (.int .i64 (cnt + 1))).cell? (ad.add i) = some (.int .i64 (x : Nat)) := fun i x hx => cell1 _ _ (by rw [add_block]; exact n2) (ho i x hx)
  have hjb := joinL_bd hcb os
  have hz : (w.setCell ⟨Bc, 0, none⟩ (.int .i64 (cnt + 1))).heap.size = w.heap.size := by simp [World.setCell]
  obtain ⟨k2, k3⟩ := bk1.at1
  have HC := Lib.hid hc1
  have HO := Lib.hid ho1
  have HJB := Lib.hid hjb
  have HSB := Lib.hid hsb
  have HZ := Lib.hid hz
  have HSL := Lib.hid hsl
  have HB := Lib.hid (And.intro bk1 (And.intro bs1 (And.intro bS1 (And.intro bc1 W1))))
  have HX := Lib.hid (And.intro hN (And.intro hl (And.intro hol (And.intro hos hcb))))
  clear hc ho hc1 ho1 hjb hsb hz bk bs bS bc bk1 bs1 bS1 bc1 W1 cell1 k0 k1 hN hl hol hos hcb hsl
  go_enter Try.func59, Try.ntmps59
  go_wp2_with fail
  refine (join_any ad ac N cap n cap' c os _ hn HX.out.1 HX.out.2.1 HX.out.2.2.1 HC.out HO.out HX.out.2.2.2.1 HX.out.2.2.2.2).mono ?_
  rintro e w2 ⟨rfl, hJ, hb⟩
  rw [HZ.out] at hb hJ ⊢
  obtain ⟨bk1, bs1, bS1, bc1, W1⟩ := HB.out
  have W2 : Kept w.heap.size [Bc, S] w w2 := W1.trans (Kept.of_below hb _)
  have bs2 := bs1.below hb (by have := bs1.lt; rw [HZ.out] at this; exact this)
  have bS2 := bS1.below hb (by have := bS1.lt; rw [HZ.out] at this; exact this)
  have bc2 := bc1.below hb hbc
  have hS : S < w.heap.size := by have := bS1.lt; rw [HZ.out] at this; exact this
  have hBs : Bs < w.heap.size := by have := bs1.lt; rw [HZ.out] at this; exact this
  have H2 := Lib.hid (And.intro hJ (And.intro W2 (And.intro bs2 (And.intro bS2 bc2))))
  clear hJ hb W2 bs2 bS2 bc2 bk1 bs1 bS1 bc1 W1
  go_wp2
  go_loopw [13] (fun i wr => ∃ k : Nat, k ≤ n ∧ i = .int .i64 k ∧ Blk wr S 3 (arr (addUp sums (joinL c os) k)) ∧ Blk wr Bc 3 #[.int .i64 (cnt + 1)] ∧ Blk wr Bs 22 #[.slice (some ⟨S, 0, none⟩) n n] ∧ Blk wr w.heap.size 3 (arr (joinL c os)) ∧ Kept w.heap.size [Bc, S] w wr) (fun i _ => n - (intOf i).toNat)
  case atStart => exact ⟨0, Nat.zero_le _, rfl, H2.out.2.2.2.1, H2.out.2.2.2.2, H2.out.2.2.1, H2.out.1, H2.out.2.1⟩
  case round =>
    obtain ⟨k, h1, rfl, bS, bc, bs, bJ, hK⟩ := hrel
    by_cases hlt : k < n
    · have hjl : k < (joinL c os).length := by
        have := (joinP_bd c n os HX.out.2.2.2.1).2
        unfold joinP at this; rw [show joinL c os = (os.foldl (joinStep c) (0, List.replicate n 0)).2 from by rw [joinL, HX.out.2.2.1]]; omega
      have hul : k < (addUp sums (joinL c os) k).length := by rw [addUp_length, HSL.out]; exact hlt
      obtain ⟨x, hx⟩ : ∃ x, (joinL c os)[k]? = some x := ⟨_, List.getElem?_eq_getElem hjl⟩
      obtain ⟨z, hz⟩ : ∃ x, (addUp sums (joinL c os) k)[k]? = some x := ⟨_, List.getElem?_eq_getElem hul⟩
      have hxb := HJB.out x (List.mem_of_getElem? hx)
      have hzb := addUp_bd HSB.out HJB.out (by omega) k z (List.mem_of_getElem? hz)
      have c1 : wr.cell? ⟨w.heap.size, k, none⟩ = some (.int .i64 x) := by rw [bJ.cell, arr_get, hx]; rfl
      have c2 : wr.cell? ⟨S, k, none⟩ = some (.int .i64 z) := by rw [bS.cell, arr_get, hz]; rfl
      have f2 : wr.frozen? ⟨S, k, none⟩ = false := bS.frozen k
      obtain ⟨s1, s2⟩ := bs.at1
      have HNEW : Hid (addUp sums (joinL c os) (k + 1) = (addUp sums (joinL c os) k).set k (z + x)) := Lib.hid (by
        rw [addUp, List.getD_eq_getElem?_getD, List.getD_eq_getElem?_getD, hz, hx]; rfl)
      have H3 := Lib.hid (And.intro bS (And.intro bc (And.intro bs (And.intro bJ hK))))
      clear bS bc bs bJ hK hx hz hjl hul
      go_wp2
      go_roundw
      case rel =>
        obtain ⟨bS, bc, bs, bJ, hK⟩ := H3.out
        refine ⟨k + 1, by omega, by go_num, ?_, bc.far (by exact fun e => n5 e.symm) _, bs.far n6 _, bJ.far (by show w.heap.size ≠ S; omega) _, hK.setCell (.inl (by simp)) _⟩
        rw [HNEW.out, ← arr_set]
        exact bS.set_ k _
      case measure => simp [intOf]; omega
    · obtain rfl : k = n := by omega
      have H3 := Lib.hid (And.intro bS (And.intro bc hK))
      clear bS bc bs bJ hK
      go_wp2
      go_end0
      exact ⟨rfl, H3.out.2.1, H3.out.1, H3.out.2.2⟩
end Go.Proofs.Ytbidboagaoifaaa
