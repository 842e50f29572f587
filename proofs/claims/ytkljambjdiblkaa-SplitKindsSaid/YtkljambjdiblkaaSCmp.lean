/- Contracts: cmp.Compare and slices.Compare of ints. -/
import Derived.Test.YtkljambjdiblkaaLib
namespace Go.Proofs.Ytkljambjdiblkaa
open Go.RowKit

def cmpI (x y : Int) : Int := if x < y then -1 else if y < x then 1 else 0
/-- Which of two lists comes first. -/
def cmpL : List Int → List Int → Int
  | [], [] => 0
  | [], _ :: _ => -1
  | _ :: _, [] => 1
  | x :: a, y :: b => if cmpI x y = 0 then cmpL a b else cmpI x y
theorem cmpI_zero {x y : Int} : cmpI x y = 0 ↔ x = y := by
  unfold cmpI
  split
  · constructor
    · intro h; omega
    · omega
  · split
    · constructor
      · intro h; omega
      · omega
    · constructor
      · omega
      · omega
theorem cmpI_bd (x y : Int) : -1 ≤ cmpI x y ∧ cmpI x y ≤ 1 := by unfold cmpI; split <;> (try split) <;> omega
theorem cmpL_bd (a b : List Int) : -1 ≤ cmpL a b ∧ cmpL a b ≤ 1 := by
  induction a generalizing b with
  | nil => cases b <;> simp [cmpL]
  | cons x a ih =>
    cases b with
    | nil => simp [cmpL]
    | cons y b =>
      simp only [cmpL]
      split
      · exact ih b
      · exact cmpI_bd x y
theorem cmpL_get {a b : List Int} {k : Nat} {x y : Int} (hx : a[k]? = some x) (hy : b[k]? = some y) : cmpL (a.drop k) (b.drop k) = if cmpI x y = 0 then cmpL (a.drop (k + 1)) (b.drop (k + 1)) else cmpI x y := by
  obtain ⟨h1, e1⟩ := List.getElem?_eq_some_iff.1 hx
  obtain ⟨h2, e2⟩ := List.getElem?_eq_some_iff.1 hy
  rw [List.drop_eq_getElem_cons h1, List.drop_eq_getElem_cons h2, e1, e2, cmpL]
theorem cmpL_left {a b : List Int} {k : Nat} (h1 : k < a.length) (h2 : b.length ≤ k) : cmpL (a.drop k) (b.drop k) = 1 := by
  rw [List.drop_eq_getElem_cons h1, List.drop_of_length_le h2]; rfl
theorem cmpL_right {a b : List Int} {k : Nat} (h1 : a.length ≤ k) (h2 : k < b.length) : cmpL (a.drop k) (b.drop k) = -1 := by
  rw [List.drop_eq_getElem_cons h2, List.drop_of_length_le h1]; rfl
theorem cmpL_end {a b : List Int} {k : Nat} (h1 : a.length ≤ k) (h2 : b.length ≤ k) : cmpL (a.drop k) (b.drop k) = 0 := by
  rw [List.drop_of_length_le h1, List.drop_of_length_le h2]; rfl

theorem isnan_any (x : Int) (w : World) : Calls Try.prog 115 #[.int .i64 x] w fun e w' => e = .returned (.bool false) ∧ w = w' := by
  have hb : (x != x) = false := by simp
  go_enter Try.func115, Try.ntmps115
  go_wp2_with fail
  go_ret
  exact ⟨rfl, rfl⟩
theorem cmp_any (x y : Int) (w : World) : Calls Try.prog 109 #[.int .i64 x, .int .i64 y] w fun e w' => e = .returned (.int .i64 (cmpI x y)) ∧ w = w' := by
  by_cases h1 : x < y
  · have HE : Hid (cmpI x y = -1) := Lib.hid (by unfold cmpI; rw [if_pos h1])
    go_enter Try.func109, Try.ntmps109
    go_wp2_with fail
    refine (isnan_any x _).mono ?_
    rintro e w' ⟨rfl, rfl⟩
    go_wp2_with fail
    refine (isnan_any y _).mono ?_
    rintro e w' ⟨rfl, rfl⟩
    go_wp2_with fail
    go_ret
    exact ⟨ret_int HE.out.symm, rfl⟩
  · by_cases h2 : y < x
    · have HE : Hid (cmpI x y = 1) := Lib.hid (by unfold cmpI; rw [if_neg h1, if_pos h2])
      go_enter Try.func109, Try.ntmps109
      go_wp2_with fail
      refine (isnan_any x _).mono ?_
      rintro e w' ⟨rfl, rfl⟩
      go_wp2_with fail
      refine (isnan_any y _).mono ?_
      rintro e w' ⟨rfl, rfl⟩
      go_wp2_with fail
      go_ret
      exact ⟨ret_int HE.out.symm, rfl⟩
    · have HE : Hid (cmpI x y = 0) := Lib.hid (by unfold cmpI; rw [if_neg h1, if_neg h2])
      go_enter Try.func109, Try.ntmps109
      go_wp2_with fail
      refine (isnan_any x _).mono ?_
      rintro e w' ⟨rfl, rfl⟩
      go_wp2_with fail
      refine (isnan_any y _).mono ?_
      rintro e w' ⟨rfl, rfl⟩
      go_wp2_with fail
      go_ret
      exact ⟨ret_int HE.out.symm, rfl⟩

set_option maxHeartbeats 800000 in
theorem compare_any (A B : Option Addr) (n m ca cb : Nat) (ps qs : List Int) (w : World) (hl : ps.length = n) (hl' : qs.length = m) (hn : n ≤ 1000) (hm : m ≤ 1000) (h : Ints w A ps) (h' : Ints w B qs) :
    Calls Try.prog 102 #[.slice A n ca, .slice B m cb] w fun e w' => e = .returned (.int .i64 (cmpL ps qs)) ∧ w = w' := by
  have hI := fun (hp : 0 < ps.length) => h.some_ hp
  have hI' := fun (hp : 0 < qs.length) => h'.some_ hp
  have H := Lib.hid (And.intro hl (And.intro hl' (And.intro hI hI')))
  clear hl hl' hI hI' h h'
  go_enter Try.func102, Try.ntmps102
  go_wp2_with fail
  go_loop [11] (fun i => ∃ k : Nat, k ≤ n ∧ k ≤ m ∧ i = .int .i64 k ∧ cmpL ps qs = cmpL (ps.drop k) (qs.drop k)) (fun i => n - (intOf i).toNat)
  case atStart => exact ⟨0, Nat.zero_le _, Nat.zero_le _, rfl, rfl⟩
  case round =>
    obtain ⟨k, hk, hkm, rfl, he⟩ := hrel
    have HE := Lib.hid he
    clear he
    obtain ⟨hl, hl', hI, hI'⟩ := H.out
    by_cases hlt : k < n
    · by_cases hlm : k < m
      · obtain ⟨ad, rfl, _, hc⟩ := hI (by omega)
        obtain ⟨bd, rfl, _, hc'⟩ := hI' (by omega)
        obtain ⟨x, hx⟩ : ∃ x, ps[k]? = some x := ⟨_, List.getElem?_eq_getElem (by omega)⟩
        obtain ⟨y, hy⟩ : ∃ x, qs[k]? = some x := ⟨_, List.getElem?_eq_getElem (by omega)⟩
        have c1 := hc k x hx
        have c2 := hc' k y hy
        have HG := Lib.hid (cmpL_get hx hy)
        clear hl hl' hI hI' hc hc' hx hy
        go_wp2_with fail
        refine (cmp_any x y _).mono ?_
        rintro e w' ⟨rfl, rfl⟩
        by_cases hz : cmpI x y = 0
        · have HN : Hid (cmpL ps qs = cmpL (ps.drop (k + 1)) (qs.drop (k + 1))) := Lib.hid (by rw [HE.out, HG.out, if_pos hz])
          rw [hz]
          clear hz
          go_wp2_with fail
          go_round
          case rel => exact ⟨k + 1, by omega, by omega, by go_num, HN.out⟩
          case measure => simp [intOf]; omega
        · have HN : Hid (cmpL ps qs = cmpI x y) := Lib.hid (by rw [HE.out, HG.out, if_neg hz])
          have hb : (cmpI x y != 0) = true := by simpa using hz
          generalize cmpI x y = z at *
          clear hz
          go_wp2_with fail
          go_ret
          exact ⟨ret_int HN.out.symm, rfl⟩
      · have HN : Hid (cmpL ps qs = 1) := Lib.hid (by rw [HE.out, cmpL_left (by omega) (by omega)])
        obtain ⟨ad, rfl, _, hc⟩ := hI (by omega)
        obtain ⟨x, hx⟩ : ∃ x, ps[k]? = some x := ⟨_, List.getElem?_eq_getElem (by omega)⟩
        have c1 := hc k x hx
        clear hl hl' hI hI' hc hx
        go_wp2_with fail
        go_ret
        exact ⟨ret_int HN.out.symm, rfl⟩
    · obtain rfl : n = k := by omega
      by_cases hlm : n < m
      · have HN : Hid (cmpL ps qs = -1) := Lib.hid (by rw [HE.out, cmpL_right (by omega) (by omega)])
        clear hl hl' hI hI'
        go_wp2_with fail
        go_ret
        exact ⟨ret_int HN.out.symm, rfl⟩
      · have HN : Hid (cmpL ps qs = 0) := Lib.hid (by rw [HE.out, cmpL_end (by omega) (by omega)])
        clear hl hl' hI hI'
        go_wp2_with fail
        go_ret
        exact ⟨ret_int HN.out.symm, rfl⟩
end Go.Proofs.Ytkljambjdiblkaa
