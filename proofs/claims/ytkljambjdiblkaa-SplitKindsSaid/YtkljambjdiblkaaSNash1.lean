/- Contract: the score of Nash (package split): how many people have something, and the product of what they have. -/
import Derived.Test.YtkljambjdiblkaaSMat
import Derived.Test.YtkljambjdiblkaaSBest
namespace Go.Proofs.Ytkljambjdiblkaa
open Go.RowKit

/-- How many of the list are above 0, and their product. -/
def posN : List Int → Int
  | [] => 0
  | x :: l => posN l + if 0 < x then 1 else 0
def posP : List Int → Int
  | [] => 1
  | x :: l => posP l * if 0 < x then x else 1
theorem posN_snoc (l : List Int) (x : Int) : posN (l ++ [x]) = posN l + if 0 < x then 1 else 0 := by
  induction l with
  | nil => simp [posN]
  | cons y l ih => simp only [List.cons_append, posN, ih]; omega
theorem posP_snoc (l : List Int) (x : Int) : posP (l ++ [x]) = posP l * if 0 < x then x else 1 := by
  induction l with
  | nil => simp [posP]
  | cons y l ih => simp only [List.cons_append, posP, ih]; exact Int.mul_right_comm _ _ _
theorem posN_take {l : List Int} {k : Nat} {x : Int} (h : l[k]? = some x) : posN (l.take (k + 1)) = posN (l.take k) + if 0 < x then 1 else 0 := by
  rw [List.take_add_one, h]; exact posN_snoc _ _
theorem posP_take {l : List Int} {k : Nat} {x : Int} (h : l[k]? = some x) : posP (l.take (k + 1)) = posP (l.take k) * if 0 < x then x else 1 := by
  rw [List.take_add_one, h]; exact posP_snoc _ _
theorem posN_bd (l : List Int) : 0 ≤ posN l ∧ posN l ≤ l.length := by
  induction l with
  | nil => simp [posN]
  | cons y l ih => simp only [posN, List.length_cons]; split <;> omega
theorem posP_bd (l : List Int) (h : ∀ x ∈ l, x ≤ 1000) : 1 ≤ posP l ∧ posP l ≤ 1000 ^ l.length := by
  induction l with
  | nil => simp [posP]
  | cons y l ih =>
    obtain ⟨a, b⟩ := ih fun x hx => h x (List.mem_cons_of_mem _ hx)
    have hy := h y (List.mem_cons_self ..)
    simp only [posP, List.length_cons]
    split
    · refine ⟨Int.le_trans (by omega) (Int.mul_le_mul a (show (1 : Int) ≤ y by omega) (by omega) (by omega)), ?_⟩
      rw [Int.pow_succ]
      exact Int.mul_le_mul b hy (by omega) (Int.pow_nonneg (by omega))
    · rw [Int.mul_one, Int.pow_succ]
      refine ⟨a, Int.le_trans b ?_⟩
      have : (0 : Int) ≤ 1000 ^ l.length := Int.pow_nonneg (by omega)
      omega

/-- The score of Nash. -/
def nashS (V : List (List Int)) (d : List Int) (n : Nat) : List Int := [posN (ownV V d n), posP (ownV V d n)]

theorem own_bd {V : List (List Int)} {d : List Int} {n : Nat} (hr : ∀ i, i < n → (rowV V i).length = d.length ∧ ∀ x ∈ rowV V i, 0 ≤ x ∧ x ≤ 100) (hd : d.length ≤ 7) : ∀ x ∈ ownV V d n, 0 ≤ x ∧ x ≤ 1000 := by
  intro x hx
  obtain ⟨i, hi, rfl⟩ := List.mem_map.1 hx
  have h := worTo_bd (hr i (List.mem_range.1 hi)).2 d (i : Int) d.length
  unfold wor
  omega

theorem own_new {w : World} (e : TypeId) (cs : Array Value) (h : cs.size ≤ maxLen) : (w.alloc (.cells cs e)).ownsRow w.heap.size e 1 (.slice (some ⟨w.heap.size, 0, none⟩) cs.size cs.size) cs.size cs.toList :=
  ⟨by simp, .inr ⟨w.heap.size, cs.size, cs, rfl, Nat.le_refl _, Blk.new w e cs rfl, Nat.le_refl _, h, by simp, by rw [List.take_of_length_le (by simp)]⟩⟩

set_option maxRecDepth 100000 in
set_option maxHeartbeats 1600000 in
theorem nash1_any (A : Option Addr) (n cap : Nat) (D : Option Addr) (m capd Bv : Nat) (V : List (List Int)) (d : List Int) (w : World) (hv : w.cell? ⟨Bv, 0, none⟩ = some (.slice A n cap)) (hl : V.length = n) (hn : n ≤ 4) (hld : d.length = m) (hm : m ≤ 7)
    (hr : ∀ i, i < n → (rowV V i).length = m ∧ ∀ x ∈ rowV V i, 0 ≤ x ∧ x ≤ 100) (hV : Mat w A V) (hD : Ints w D d) :
    Calls Try.prog 77 #[.slice D m capd, .pointer (some ⟨Bv, 0, none⟩)] w (ScorePost (nashS V d n) w) := by
  have H := Lib.hid (And.intro hl (And.intro hld (And.intro hr (And.intro hV hD))))
  have HB := Lib.hid (own_bd (V := V) (d := d) (n := n) (by rw [hld]; exact hr) (by omega))
  clear hl hld hr hV hD
  go_enter Try.func77, Try.ntmps77
  go_wp2_with fail
  refine (own_any A n cap D m capd V d _ H.out.1 (by omega) H.out.2.1 (by omega) H.out.2.2.1 H.out.2.2.2.1 H.out.2.2.2.2).mono ?_
  rintro e w1 ⟨A1, c1, rfl, hown, hb⟩
  have hI : Ints w1 A1 (ownV V d n) := At.of_own hown
  obtain ⟨o, ho⟩ : ∃ o, o = ownV V d n := ⟨_, rfl⟩
  have hol : o.length = n := by rw [ho, ownV_length]
  rw [← ho] at hI
  have HO := Lib.hid ho
  have HB' : Hid (∀ x ∈ o, 0 ≤ x ∧ x ≤ 1000) := Lib.hid (by rw [ho]; exact HB.out)
  have HI := Lib.hid (And.intro hI (And.intro hb hol))
  have hz := hb.size
  clear hown hI hb ho hol HB H
  go_wp2_with fail
  go_loop [4, 5, 12] (fun cv pv i => ∃ k : Nat, k ≤ n ∧ i = .int .i64 k ∧ cv = .int .i64 (posN (o.take k)) ∧ pv = .int .i64 (posP (o.take k))) (fun _ _ i => n - (intOf i).toNat)
  case atStart => exact ⟨0, Nat.zero_le _, rfl, rfl, rfl⟩
  case round =>
    obtain ⟨k, hk, rfl, rfl, rfl⟩ := hrel
    by_cases hlt : k < n
    · obtain ⟨x, hx⟩ : ∃ x, o[k]? = some x := ⟨_, List.getElem?_eq_getElem (by have := HI.out.2.2; omega)⟩
      obtain ⟨ad, rfl, hc⟩ := HI.out.1 k (.int .i64 x) (by rw [List.getElem?_map, hx]; rfl)
      have hx1 := HB'.out x (List.mem_of_getElem? hx)
      have hnb := posN_bd (o.take k)
      have hpb := posP_bd (o.take k) (fun x hx => (HB'.out x (List.mem_of_mem_take hx)).2)
      have hlen : (o.take k).length = k := by rw [List.length_take]; have := HI.out.2.2; omega
      rw [hlen] at hnb hpb
      have hpb2 : posP (o.take k) ≤ 1000000000 := by
        have : k ≤ 3 := by omega
        have h2 : ((1000 : Int) ^ k) ≤ 1000000000 := by
          have hk3 : k = 0 ∨ k = 1 ∨ k = 2 ∨ k = 3 := by omega
          rcases hk3 with rfl | rfl | rfl | rfl <;> decide
        omega
      have HN := Lib.hid (posN_take hx)
      have HP := Lib.hid (posP_take hx)
      generalize posN (o.take k) = cn at *
      generalize posP (o.take k) = pp at *
      have hmul : 0 ≤ pp * x ∧ pp * x ≤ 1000000000000 := ⟨Int.mul_nonneg (by omega) hx1.1, Int.le_trans (Int.mul_le_mul hpb2 hx1.2 hx1.1 (by omega)) (by omega)⟩
      have l1 : (k : Int) < (n : Int) := by omega
      clear hx hlen
      by_cases hpos : 0 < x
      · rw [if_pos hpos] at HN HP
        go_wp2_with fail
        go_round
        case rel => exact ⟨k + 1, by omega, by go_num, by rw [HN.out], by rw [HP.out]⟩
        case measure => simp [intOf]; omega
      · rw [if_neg hpos] at HN HP
        go_wp2_with fail
        go_round
        case rel => exact ⟨k + 1, by omega, by go_num, by rw [HN.out, Int.add_zero], by rw [HP.out, Int.mul_one]⟩
        case measure => simp [intOf]; omega
    · obtain rfl : n = k := by omega
      have HT : Hid (o.take n = o) := Lib.hid (List.take_of_length_le (by have := HI.out.2.2; omega))
      go_wp2_with fail
      go_ret
      rw [HT.out]
      unfold ScorePost nashS
      rw [← HO.out]
      exact ⟨_, 2, rfl, own_mono (own_new (w := w1) 3 #[.int .i64 (posN o), .int .i64 (posP o)] (show 2 ≤ maxLen by decide)) hz, HI.out.2.1.alloc hz _⟩
end Go.Proofs.Ytkljambjdiblkaa
