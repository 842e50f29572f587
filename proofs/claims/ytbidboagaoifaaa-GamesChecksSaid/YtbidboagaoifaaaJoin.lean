/- Contract: join of package games. -/
import Derived.Test.YtbidboagaoifaaaMake
import Derived.Test.YtbidboagaoifaaaJoinLaw
namespace Go.Proofs.Ytbidboagaoifaaa
open Go.RowKit

set_option maxHeartbeats 800000 in
theorem join_any (ad ac : Addr) (N cap n cap' : Nat) (c : List Int) (os : List Nat) (w : World) (hn : n ≤ 4) (hN : N = 2 ^ n) (hl : c.length = N) (hol : os.length = n)
    (hc : ∀ i x, c[i]? = some x → w.cell? (ac.add i) = some (.int .i64 x)) (ho : ∀ i x, os[i]? = some x → w.cell? (ad.add i) = some (.int .i64 (x : Nat)))
    (hos : ∀ x ∈ os, x < n) (hcb : ∀ x ∈ c, 0 ≤ x ∧ x ≤ 1000) :
    Calls Try.prog 60 #[.slice (some ac) N cap, .slice (some ad) n cap'] w fun e w' => e = .returned (.slice (some ⟨w.heap.size, 0, none⟩) n n) ∧ Blk w' w.heap.size 3 (arr (joinL c os)) ∧ Below w.heap.size w w' := by
  have hmk := make_ints n (by omega)
  have HN := Lib.hid hN
  have HL := Lib.hid hl
  have HOL := Lib.hid hol
  have HC := Lib.hid hc
  have HO := Lib.hid ho
  have HOS := Lib.hid hos
  have HCB := Lib.hid hcb
  clear hN hl hol hc ho hos hcb
  go_enter Try.func60, Try.ntmps60
  go_wp2
  go_loopw [6, 14] (fun s i wr => ∃ k set : Nat, k ≤ n ∧ i = .int .i64 k ∧ s = .int .i64 set ∧ set = (joinP c n (os.take k)).1 ∧ Blk wr w.heap.size 3 (arr (joinP c n (os.take k)).2) ∧ Below w.heap.size w wr) (fun _ i _ => n - (intOf i).toNat)
  case atStart => exact ⟨0, 0, Nat.zero_le _, rfl, rfl, rfl, Blk.new _ _ _ rfl, (Below.refl _ _).alloc (Nat.le_refl _) _⟩
  case round =>
    obtain ⟨k, set, h1, rfl, rfl, hset, hB, hb⟩ := hrel
    have HSET := Lib.hid hset
    have HB := Lib.hid hB
    have HBL := Lib.hid hb
    clear hset hB hb
    by_cases hlt : k < n
    · obtain ⟨x, hx⟩ : ∃ x, os[k]? = some x := ⟨_, List.getElem?_eq_getElem (by rw [HOL.out]; exact hlt)⟩
      have hxn : x < n := HOS.out x (List.mem_of_getElem? hx)
      have bd := joinP_bd c n (os.take k) (fun y hy => HOS.out y (List.mem_of_mem_take hy))
      rw [← HSET.out] at bd
      have hlt2 : set ||| 2 ^ x < 2 ^ n := or_pow_lt bd.1 hxn
      have hp : 2 ^ n ≤ 16 := by have := Nat.pow_le_pow_right (show 0 < 2 by omega) hn; simpa using this
      obtain ⟨s', hs'⟩ : ∃ s' : Nat, s' = set ||| 2 ^ x := ⟨_, rfl⟩
      have e1 := or_pow set x (by omega) (by omega)
      have e2 := or_pow' set x (by omega) (by omega)
      rw [← hs'] at e1 e2 hlt2
      obtain ⟨y1, hy1⟩ : ∃ y, c[s']? = some y := ⟨_, List.getElem?_eq_getElem (by rw [HL.out, HN.out]; exact hlt2)⟩
      obtain ⟨y0, hy0⟩ : ∃ y, c[set]? = some y := ⟨_, List.getElem?_eq_getElem (by rw [HL.out, HN.out]; exact bd.1)⟩
      have b1 := HCB.out y1 (List.mem_of_getElem? hy1)
      have b0 := HCB.out y0 (List.mem_of_getElem? hy0)
      have c1 := (HBL.out.cell (lt_of_cell (HC.out _ _ hy1))).trans (HC.out _ _ hy1)
      have c0 := (HBL.out.cell (lt_of_cell (HC.out _ _ hy0))).trans (HC.out _ _ hy0)
      have c2 := (HBL.out.cell (lt_of_cell (HO.out _ _ hx))).trans (HO.out _ _ hx)
      have hlN : s' < N := by rw [HN.out]; exact hlt2
      have hl0 : set < N := by rw [HN.out]; exact bd.1
      obtain ⟨z, hz⟩ : ∃ z, (joinP c n (os.take k)).2[x]? = some z := ⟨_, List.getElem?_eq_getElem (by rw [bd.2]; exact hxn)⟩
      have c3 : wr.cell? ⟨w.heap.size, x, none⟩ = some (.int .i64 z) := by rw [HB.out.cell, arr_get, hz]; rfl
      have f3 : wr.frozen? ⟨w.heap.size, x, none⟩ = false := HB.out.frozen x
      have HNEW : Hid (joinP c n (os.take (k + 1)) = (s', (joinP c n (os.take k)).2.set x (y1 - y0))) := Lib.hid (by
        rw [joinP_succ c n os k x hx, joinStep, ← HSET.out, ← hs', List.getD_eq_getElem?_getD, List.getD_eq_getElem?_getD, hy1, hy0]; rfl)
      clear hx hs' hy1 hy0 hz bd hlt2 hp
      go_wp2
      go_region
      go_wp2
      go_roundw
      case rel =>
        refine ⟨k + 1, s', by omega, by go_num, rfl, by rw [HNEW.out], ?_, HBL.out.drew.setCell (Nat.le_refl _) _⟩
        rw [HNEW.out, ← arr_set]
        exact Blk.set_ (w := wr.drew) HB.out x _
      case measure => simp [intOf]; omega
    · go_wp2
      go_ret
      refine ⟨rfl, ?_, HBL.out⟩
      have h := HB.out
      rwa [List.take_of_length_le (by rw [HOL.out]; omega), show joinP c n os = os.foldl (joinStep c) (0, List.replicate os.length 0) from by rw [joinP, HOL.out]] at h
end Go.Proofs.Ytbidboagaoifaaa
