/- Contracts: low and sums of the reference (package corrodyref01). -/
import Derived.Test.YtkljambjdiblkaaSMat
import Derived.Test.YtkljambjdiblkaaSShareLaw2
import Derived.Test.YtkljambjdiblkaaMake
namespace Go.Proofs.Ytkljambjdiblkaa
open Go.RowKit

theorem lmin_fold (x : Int) (l : List Int) : (x :: l).foldl min x = lmin (x :: l) := by
  show l.foldl min (min x x) = l.foldl min x
  rw [Int.min_self]

set_option maxHeartbeats 800000 in
theorem r1low_any (A : Option Addr) (n cap : Nat) (r : List Int) (w : World) (hl : r.length = n) (hp : 0 < n) (hn : n ≤ 9223372036854775807) (hI : Ints w A r) :
    Calls Try.prog 61 #[.slice A n cap] w fun e w' => e = .returned (.int .i64 (lmin r)) ∧ w = w' := by
  obtain ⟨x0, t, hr⟩ : ∃ x0 t, r = x0 :: t := by
    cases r with
    | nil => simp at hl; omega
    | cons x t => exact ⟨x, t, rfl⟩
  obtain ⟨ad, rfl, hc0⟩ := hI 0 (.int .i64 x0) (by rw [hr]; rfl)
  have c0 : w.cell? ad = some (.int .i64 x0) := hc0
  have HF : Hid (r.foldl min x0 = lmin r) := Lib.hid (by rw [hr]; exact lmin_fold x0 t)
  have H := Lib.hid (And.intro hl hI)
  have l0 : (0 : Int) < (n : Int) := by omega
  clear hl hI hc0 hr
  go_enter Try.func61, Try.ntmps61
  go_wp2_with fail
  go_loop [3, 11] (fun v i => ∃ k : Nat, k ≤ n ∧ i = .int .i64 k ∧ v = .int .i64 ((r.take k).foldl min x0)) (fun _ i => n - (intOf i).toNat)
  case atStart => exact ⟨0, Nat.zero_le _, rfl, rfl⟩
  case round =>
    obtain ⟨k, hk, rfl, rfl⟩ := hrel
    by_cases hlt : k < n
    · obtain ⟨x, hx⟩ : ∃ x, r[k]? = some x := ⟨_, List.getElem?_eq_getElem (by have := H.out.1; omega)⟩
      obtain ⟨ad', had, hc⟩ := H.out.2 k (.int .i64 x) (by rw [List.getElem?_map, hx]; rfl)
      injection had with had
      subst had
      have HN : Hid ((r.take (k + 1)).foldl min x0 = min ((r.take k).foldl min x0) x) := Lib.hid (by rw [List.take_add_one, hx, List.foldl_append]; rfl)
      have l1 : (k : Int) < (n : Int) := by omega
      clear hx
      generalize (r.take k).foldl min x0 = v at *
      go_wp2_with fail
      go_round
      case rel => exact ⟨k + 1, by omega, by go_num, by rw [HN.out]; exact val_int (by split <;> omega)⟩
      case measure => simp [intOf]; omega
    · have HT : Hid ((r.take k).foldl min x0 = lmin r) := Lib.hid (by rw [List.take_of_length_le (by rw [H.out.1]; omega)]; exact HF.out)
      go_wp2_with fail
      go_ret
      exact ⟨ret_int HT.out, rfl⟩

/-- What the parts are worth after k goods. -/
def sumsTo (l d : List Int) (n : Nat) : Nat → List Int
  | 0 => List.replicate n 0
  | k + 1 => addA (sumsTo l d n k) (d.getD k 0).toNat (l.getD k 0)
theorem sumsTo_length (l d : List Int) (n k : Nat) : (sumsTo l d n k).length = n := by
  induction k with
  | zero => simp [sumsTo]
  | succ k ih => rw [sumsTo, addA_length, ih]
theorem sumsTo_bd {l d : List Int} {n : Nat} (hl : ∀ x ∈ l, 0 ≤ x ∧ x ≤ 100) (k q : Nat) (hq : q < n) : 0 ≤ (sumsTo l d n k).getD q 0 ∧ (sumsTo l d n k).getD q 0 ≤ 100 * k := by
  induction k with
  | zero => simp [sumsTo, List.getD_eq_getElem?_getD, hq]
  | succ k ih =>
    have hx : 0 ≤ l.getD k 0 ∧ l.getD k 0 ≤ 100 := by
      rw [List.getD_eq_getElem?_getD]
      cases h : l[k]? with
      | none => simp
      | some x => exact hl x (List.mem_of_getElem? h)
    rw [sumsTo, addA_getD _ _ q _ (by rw [sumsTo_length]; exact hq)]
    split <;> omega

set_option maxHeartbeats 800000 in
theorem r1sums_any (A D : Option Addr) (m cap capd n : Nat) (l d : List Int) (w : World) (hl : l.length = m) (hm : m ≤ 7) (hld : d.length = m) (hn : n ≤ 7) (hlb : ∀ x ∈ l, 0 ≤ x ∧ x ≤ 100) (hdb : ∀ x ∈ d, 0 ≤ x ∧ x < n) (hI : Ints w A l) (hD : Ints w D d) :
    Calls Try.prog 62 #[.slice A m cap, .slice D m capd, .int .i64 n] w fun e w' => ∃ g, e = .returned (.slice (some ⟨g, 0, none⟩) n n) ∧ Blk w' g 3 (arr (sumsTo l d n m)) ∧ w.heap.size ≤ g ∧ Below w.heap.size w w' := by
  have hmk := make_ints n (by omega) w
  have H := Lib.hid (And.intro hl (And.intro hld (And.intro hlb (And.intro hdb (And.intro hI hD)))))
  clear hl hld hlb hdb hI hD
  go_enter Try.func62, Try.ntmps62
  go_wp2_with fail
  go_loopw [14] (fun i wr => ∃ k : Nat, k ≤ m ∧ i = .int .i64 k ∧ Blk wr w.heap.size 3 (arr (sumsTo l d n k)) ∧ Below w.heap.size w wr) (fun i _ => m - (intOf i).toNat)
  case atStart => exact ⟨0, Nat.zero_le _, rfl, Blk.new _ _ _ rfl, (Below.refl _ _).alloc (Nat.le_refl _) _⟩
  case round =>
    obtain ⟨k, hk, rfl, hB, hbl⟩ := hrel
    have HB := Lib.hid (And.intro hB hbl)
    clear hB hbl
    by_cases hlt : k < m
    · obtain ⟨hl, hld, hlb, hdb, hI, hD⟩ := H.out
      obtain ⟨x, hx⟩ : ∃ x, l[k]? = some x := ⟨_, List.getElem?_eq_getElem (by omega)⟩
      obtain ⟨y, hy⟩ : ∃ y, d[k]? = some y := ⟨_, List.getElem?_eq_getElem (by omega)⟩
      obtain ⟨ad, rfl, hcx⟩ := hI k (.int .i64 x) (by rw [List.getElem?_map, hx]; rfl)
      obtain ⟨dd, rfl, hcy⟩ := hD k (.int .i64 y) (by rw [List.getElem?_map, hy]; rfl)
      have hyb := hdb y (List.mem_of_getElem? hy)
      have hxb := hlb x (List.mem_of_getElem? hx)
      obtain ⟨p, rfl⟩ : ∃ p : Nat, y = (p : Int) := ⟨y.toNat, by omega⟩
      have hp : p < n := by omega
      have hcx2 := (HB.out.2.cell (lt_of_cell hcx)).trans hcx
      have hcy2 := (HB.out.2.cell (lt_of_cell hcy)).trans hcy
      have hsb := sumsTo_bd (d := d) (n := n) hlb k p hp
      obtain ⟨z, hz⟩ : ∃ z, (sumsTo l d n k)[p]? = some z := ⟨_, List.getElem?_eq_getElem (by rw [sumsTo_length]; exact hp)⟩
      have hzd : (sumsTo l d n k).getD p 0 = z := by rw [List.getD_eq_getElem?_getD, hz]; rfl
      rw [hzd] at hsb
      have c3 : wr.cell? ⟨w.heap.size, p, none⟩ = some (.int .i64 z) := by rw [HB.out.1.cell, arr_get, hz]; rfl
      have f3 : wr.frozen? ⟨w.heap.size, p, none⟩ = false := HB.out.1.frozen p
      have hN : sumsTo l d n (k + 1) = (sumsTo l d n k).set p (z + x) := by
        have ex : l.getD k 0 = x := by rw [List.getD_eq_getElem?_getD, hx]; rfl
        have ey : d.getD k 0 = (p : Int) := by rw [List.getD_eq_getElem?_getD, hy]; rfl
        rw [sumsTo, addA, ex, ey, Int.toNat_natCast, hzd]
      have HNEW := Lib.hid hN
      have l1 : (k : Int) < (m : Int) := by omega
      have l2 : (p : Int) < (n : Int) := by omega
      clear hl hld hlb hdb hI hD hx hy hz hzd hN hcx hcy
      go_wp2_with fail
      go_region
      go_wp2_with fail
      go_roundw
      case rel =>
        refine ⟨k + 1, by omega, by go_num, ?_, HB.out.2.drew.setCell (Nat.le_refl _) _⟩
        rw [HNEW.out, ← arr_set]
        exact Blk.set_ (w := wr.drew) HB.out.1 p _
      case measure => simp [intOf]; omega
    · obtain rfl : k = m := by omega
      go_wp2_with fail
      go_ret
      exact ⟨_, rfl, HB.out.1, Nat.le_refl _, HB.out.2⟩
end Go.Proofs.Ytkljambjdiblkaa
