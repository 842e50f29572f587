/- Contract: IsBetter of the reference (package corrodyref01). -/
import Derived.Test.YtkljambjdiblkaaSRefOwn
namespace Go.Proofs.Ytkljambjdiblkaa
open Go.RowKit

/-- Some number of the first is less than that of the second. -/
def lessAny (x y : List Int) : Bool := (x.zip y).any fun p => decide (p.1 < p.2)
/-- No number is less, and some is more. -/
def bet (x y : List Int) : Bool := !lessAny x y && lessAny y x
theorem lessAny_take {x y : List Int} {k : Nat} {a b : Int} (hx : x[k]? = some a) (hy : y[k]? = some b) : lessAny (x.take (k + 1)) (y.take (k + 1)) = (lessAny (x.take k) (y.take k) || decide (a < b)) := by
  have hz : ∀ j, (x.take j).zip (y.take j) = (x.zip y).take j := fun j => by simp [List.zip, List.take_zipWith]
  unfold lessAny
  rw [hz, hz, List.take_add_one, (List.getElem?_zip_eq_some (z := (a, b))).2 ⟨hx, hy⟩]
  simp
theorem lessAny_at {x y : List Int} {k : Nat} {a b : Int} (hx : x[k]? = some a) (hy : y[k]? = some b) (h : a < b) : lessAny x y = true :=
  List.any_eq_true.2 ⟨(a, b), List.mem_of_getElem? ((List.getElem?_zip_eq_some (z := (a, b))).2 ⟨hx, hy⟩), by simpa using h⟩
theorem bet_eq {x y : List Int} (h : x.length = y.length) : bet x y = (!lessAny x y && !decide (x = y)) := by
  unfold bet
  cases hw : lessAny x y
  · simp only [Bool.not_false, Bool.true_and]
    rw [Bool.eq_iff_iff]
    simp only [Bool.not_eq_true', decide_eq_false_iff_not]
    constructor
    · rintro hm rfl
      rw [hw] at hm; cases hm
    · intro hne
      apply Decidable.byContradiction
      intro hm
      rw [Bool.not_eq_true] at hm
      apply hne
      apply List.ext_getElem? 
      intro k
      by_cases hk : k < x.length
      · have e1 : x[k]? = some (x[k]'hk) := List.getElem?_eq_getElem hk
        have e2 : y[k]? = some (y[k]'(by omega)) := List.getElem?_eq_getElem (by omega)
        rw [e1, e2]
        congr 1
        apply Int.le_antisymm
        · apply Int.not_lt.1; intro hlt; rw [lessAny_at e2 e1 hlt] at hm; cases hm
        · apply Int.not_lt.1; intro hlt; rw [lessAny_at e1 e2 hlt] at hw; cases hw
      · rw [List.getElem?_eq_none (by omega), List.getElem?_eq_none (by omega)]
  · rfl

set_option maxRecDepth 100000 in
set_option maxHeartbeats 1600000 in
theorem isbetter_any (A : Option Addr) (n cap : Nat) (D E : Option Addr) (m capd cape : Nat) (V : List (List Int)) (d f : List Int) (w : World) (hl : V.length = n) (hn : n ≤ 1000) (hld : d.length = m) (hle : f.length = m) (hm : m ≤ 1000)
    (hr : ∀ i, i < n → (rowV V i).length = m ∧ ∀ x ∈ rowV V i, 0 ≤ x ∧ x ≤ 100) (hV : Mat w A V) (hD : Ints w D d) (hE : Ints w E f) :
    Calls Try.prog 56 #[.slice A n cap, .slice D m capd, .slice E m cape] w fun e w' => e = .returned (.bool (bet (ownV V d n) (ownV V f n))) ∧ Below w.heap.size w w' := by
  have H := Lib.hid (And.intro hl (And.intro hld (And.intro hle (And.intro hr (And.intro hV (And.intro hD hE))))))
  clear hl hld hle hr hV hD hE
  obtain ⟨x, hx⟩ : ∃ x, x = ownV V d n := ⟨_, rfl⟩
  obtain ⟨y, hy⟩ : ∃ y, y = ownV V f n := ⟨_, rfl⟩
  rw [← hx, ← hy]
  have HXY := Lib.hid (And.intro hx (And.intro hy (And.intro (show x.length = n by rw [hx, ownV_length]) (show y.length = n by rw [hy, ownV_length]))))
  clear hx hy
  go_enter Try.func56, Try.ntmps56
  go_wp2_with fail
  refine (r1own_any A n cap D m capd V d _ H.out.1 hn H.out.2.1 hm H.out.2.2.2.1 H.out.2.2.2.2.1 H.out.2.2.2.2.2.1).mono ?_
  rintro e w1 ⟨A1, c1, rfl, hown, hb⟩
  have hI1 : Ints w1 A1 x := by rw [HXY.out.1]; exact At.of_own hown
  have H1 := Lib.hid (And.intro hI1 hb)
  clear hown hI1 hb
  go_wp2_with fail
  refine (r1own_any A n cap E m cape V f _ H.out.1 hn H.out.2.2.1 hm H.out.2.2.2.1 (H.out.2.2.2.2.1.below H1.out.2) (H.out.2.2.2.2.2.2.below H1.out.2)).mono ?_
  rintro e w2 ⟨A2, c2, rfl, hown, hb⟩
  have hI2 : Ints w2 A2 y := by rw [HXY.out.2.1]; exact At.of_own hown
  have H2 := Lib.hid (And.intro (H1.out.1.below hb) (And.intro hI2 (And.intro (H1.out.2.trans (hb.mono H1.out.2.size)) HXY.out.2.2)))
  clear hown hI2 hb H H1 HXY
  go_wp2_with fail
  go_loopw [7, 19] (fun bv iv wr => ∃ k : Nat, k ≤ n ∧ iv = .int .i64 k ∧ bv = .bool (lessAny (y.take k) (x.take k)) ∧ lessAny (x.take k) (y.take k) = false ∧ Below w2.heap.size w2 wr) (fun _ iv _ => n - (intOf iv).toNat)
  case atStart => exact ⟨0, Nat.zero_le _, rfl, rfl, rfl, Below.refl _ _⟩
  case round =>
    obtain ⟨k, hk, rfl, rfl, hla, hbl⟩ := hrel
    obtain ⟨wo, rfl⟩ : ∃ wo : World, wo = wr := ⟨_, rfl⟩
    have HR := Lib.hid (And.intro hla hbl)
    clear hla hbl
    by_cases hlt : k < n
    · obtain ⟨a, ha⟩ : ∃ a, x[k]? = some a := ⟨_, List.getElem?_eq_getElem (by have := H2.out.2.2.2.1; omega)⟩
      obtain ⟨b, hb⟩ : ∃ b, y[k]? = some b := ⟨_, List.getElem?_eq_getElem (by have := H2.out.2.2.2.2; omega)⟩
      obtain ⟨ax, rfl, hcx⟩ := H2.out.1 k (.int .i64 a) (by rw [List.getElem?_map, ha]; rfl)
      obtain ⟨ay, rfl, hcy⟩ := H2.out.2.1 k (.int .i64 b) (by rw [List.getElem?_map, hb]; rfl)
      have hcx2 := (HR.out.2.cell (lt_of_cell hcx)).trans hcx
      have hcy2 := (HR.out.2.cell (lt_of_cell hcy)).trans hcy
      have HT := Lib.hid (And.intro (lessAny_take ha hb) (lessAny_take hb ha))
      have HN := Lib.hid (And.intro ha hb)
      have l1 : (k : Int) < (n : Int) := by omega
      clear ha hb hcx hcy
      by_cases hab : a < b
      · have HF : Hid (false = bet x y) := Lib.hid (by unfold bet; rw [lessAny_at HN.out.1 HN.out.2 hab]; rfl)
        have HB := Lib.hid (H2.out.2.2.1.trans (HR.out.2.mono H2.out.2.2.1.size))
        go_wp2_with fail
        go_quiet (fail)
        go_wp2_with fail
        go_ret
        exact ⟨ret_bool HF.out, below_drewN HB.out _⟩
      · have hla : lessAny (x.take (k + 1)) (y.take (k + 1)) = false := by rw [HT.out.1, HR.out.1, decide_eq_false hab]; rfl
        have HT2 := Lib.hid HT.out.2
        have HLA := Lib.hid hla
        clear hla
        generalize lessAny (y.take k) (x.take k) = mo at *
        cases mo
        · go_wp2_with fail
          go_quiet (fail)
          go_wp2_with fail
          go_quiet (fail)
          go_wp2_with fail
          go_roundw
          case rel => exact ⟨k + 1, by omega, by go_num, by rw [HT2.out]; rfl, HLA.out, below_drewN HR.out.2 _⟩
          case measure => simp [intOf]; omega
        · go_wp2_with fail
          go_quiet (fail)
          go_wp2_with fail
          go_quiet (fail)
          go_wp2_with fail
          go_roundw
          case rel => exact ⟨k + 1, by omega, by go_num, by rw [HT2.out]; rfl, HLA.out, below_drewN HR.out.2 _⟩
          case measure => simp [intOf]; omega
    · obtain rfl : k = n := by omega
      have hT : x.take k = x := List.take_of_length_le (by have := H2.out.2.2.2.1; omega)
      have hT2 : y.take k = y := List.take_of_length_le (by have := H2.out.2.2.2.2; omega)
      have HF : Hid (lessAny (y.take k) (x.take k) = bet x y) := Lib.hid (by have := HR.out.1; rw [hT, hT2] at *; unfold bet; rw [this]; rfl)
      have HB := Lib.hid (H2.out.2.2.1.trans (HR.out.2.mono H2.out.2.2.1.size))
      rw [HF.out]
      clear hT hT2
      go_wp2_with fail
      go_ret
      exact ⟨rfl, HB.out⟩
end Go.Proofs.Ytkljambjdiblkaa
