/- Contracts: Share and IsSplit of the reference. -/
import Derived.Test.YtkljambjdiblkaaSShared
import Derived.Test.YtkljambjdiblkaaMake
namespace Go.Proofs.Ytkljambjdiblkaa
open Go.RowKit

set_option maxHeartbeats 1600000 in
theorem r1share_any (A : Option Addr) (m cap n : Nat) (l : List Int) (w : World) (hl : l.length = m) (hm : m ≤ 7) (hmc : m ≤ cap) (hc : cap ≤ 9223372036854775807) (hn : 1 ≤ n ∧ n ≤ 7) (hlb : ∀ x ∈ l, 0 ≤ x ∧ x ≤ 100) (hI : Ints w A l) :
    Calls Try.prog 28 #[.slice A m cap, .int .i64 n] w fun e w' => e = .returned (.int .i64 (shV l n)) ∧ Below w.heap.size w w' := by
  have hmk := make_ints n (by omega)
  have H := Lib.hid (And.intro hl (And.intro hlb hI))
  clear hl hlb hI
  go_enter Try.func28, Try.ntmps28
  go_wp2_with fail
  have hB : Blk (w.alloc (.cells (arr (List.replicate n 0)) 3)) w.heap.size 3 (arr (List.replicate n 0)) := Blk.new _ _ _ rfl
  have hbl : Below w.heap.size w (w.alloc (.cells (arr (List.replicate n 0)) 3)) := (Below.refl _ _).alloc (Nat.le_refl _) _
  refine (r1shared_any n hn l A m cap (some ⟨w.heap.size, 0, none⟩) n 0 (List.replicate n 0) _ H.out.1 hm hmc hc (by simp) (Nat.le_refl _) (by omega) (by omega) H.out.2.1 ?_ (H.out.2.2.below hbl) (blk_ints hB)).mono ?_
  · intro q hq
    simp [List.getD_eq_getElem?_getD, hq]
    omega
  rintro e w1 ⟨rfl, hb⟩
  have HB := Lib.hid (hbl.trans (hb.mono hbl.size))
  clear hB hbl hb
  generalize hv : sh l (List.replicate n 0) 0 = v
  have HV := Lib.hid hv
  clear hv
  go_wp2_with fail
  go_ret
  exact ⟨by unfold shV; rw [HV.out]; rfl, HB.out⟩

/-- Whether this is a split. -/
def isSp (l : List Int) (n : Nat) (d : List Int) : Bool := d.all (fun x => decide (0 ≤ x) && decide (x < n)) && decide (d.length = l.length) && decide (shV l n ≤ lmin (sumsTo l d n l.length))

set_option maxRecDepth 100000 in
set_option maxHeartbeats 1600000 in
theorem r1issplit_any (A D : Option Addr) (m cap n capd : Nat) (l d : List Int) (w : World) (hl : l.length = m) (hm : 1 ≤ m ∧ m ≤ 7) (hmc : m ≤ cap) (hc : cap ≤ 9223372036854775807) (hn : 1 ≤ n ∧ n ≤ 7) (hlb : ∀ x ∈ l, 0 ≤ x ∧ x ≤ 100) (hI : Ints w A l)
    (hld : d.length = m) (hdb : ∀ x ∈ d, 0 ≤ x ∧ x < n) (hD : Ints w D d) (hs : lmin (sumsTo l d n m) = shV l n) :
    Calls Try.prog 29 #[.slice A m cap, .int .i64 n, .slice D m capd] w fun e w' => e = .returned (.bool true) ∧ Below w.heap.size w w' := by
  have hmm : ((m : Int) == (m : Int)) = true := by simp
  have H := Lib.hid (And.intro hl (And.intro hlb (And.intro hI (And.intro hld (And.intro hdb (And.intro hD hs))))))
  clear hl hlb hI hld hdb hD hs
  go_enter Try.func29, Try.ntmps29
  go_wp2_with fail
  go_loop [11] (fun i => ∃ k : Nat, k ≤ m ∧ i = .int .i64 k) (fun i => m - (intOf i).toNat)
  case atStart => exact ⟨0, Nat.zero_le _, rfl⟩
  case round =>
    obtain ⟨k, hk, rfl⟩ := hrel
    by_cases hlt : k < m
    · obtain ⟨y, hy⟩ : ∃ y, d[k]? = some y := ⟨_, List.getElem?_eq_getElem (by have := H.out.2.2.2.1; omega)⟩
      obtain ⟨ad, rfl, hcy⟩ := H.out.2.2.2.2.2.1 k (.int .i64 y) (by rw [List.getElem?_map, hy]; rfl)
      have hyb := H.out.2.2.2.2.1 y (List.mem_of_getElem? hy)
      have l1 : (k : Int) < (m : Int) := by omega
      clear hy
      go_wp2_with fail
      go_round
      case rel => exact ⟨k + 1, by omega, by go_num⟩
      case measure => simp [intOf]; omega
    · obtain rfl : k = m := by omega
      go_wp2_with fail
      refine (r1sums_any A D k cap capd n l d _ H.out.1 hm.2 H.out.2.2.2.1 hn.2 H.out.2.1 H.out.2.2.2.2.1 H.out.2.2.1 H.out.2.2.2.2.2.1).mono ?_
      rintro e w1 ⟨g, rfl, hB, hg, hb⟩
      have H1 := Lib.hid (And.intro hB hb)
      clear hB hb
      go_wp2_with fail
      refine (r1low_any (some ⟨g, 0, none⟩) n n (sumsTo l d n k) w1 (sumsTo_length _ _ _ _) (by omega) (by omega) (blk_ints H1.out.1)).mono ?_
      rintro e w2 ⟨rfl, rfl⟩
      obtain ⟨v, hv⟩ : ∃ v, v = lmin (sumsTo l d n k) := ⟨_, rfl⟩
      rw [← hv]
      have HV := Lib.hid hv
      clear hv
      go_wp2_with fail
      refine (r1share_any A k cap n l w1 H.out.1 hm.2 hmc hc hn H.out.2.1 (H.out.2.2.1.below H1.out.2)).mono ?_
      rintro e w3 ⟨rfl, hb3⟩
      have e1 : shV l n = v := by rw [HV.out]; exact H.out.2.2.2.2.2.2.symm
      rw [e1]
      have H3 := Lib.hid (H1.out.2.trans (hb3.mono H1.out.2.size))
      clear hb3 e1
      go_wp2_with fail
      go_ret
      exact ⟨rfl, H3.out⟩
end Go.Proofs.Ytkljambjdiblkaa
