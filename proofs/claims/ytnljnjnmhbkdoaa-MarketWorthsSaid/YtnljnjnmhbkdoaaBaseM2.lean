/- Laws and contracts that the proof of the market rows uses, part 2. -/
import Derived.Test.YtnljnjnmhbkdoaaBaseM1
import Derived.Laws.BitsAllLaws
import Derived.Laws.BitsLemmas
import Derived.Laws.CopyOwn
import Derived.Deep.RegionLaw
import Derived.Deep.RegionHeld3
import Derived.Maps.OwnOps
import Derived.Maps.Views
import Derived.DeepKeys4
import Derived.Laws.AppendOwnNone
namespace Go.Proofs.Ytnljnjnmhbkdoaa
open Go.RowKit

/- Contracts of slices.Min and slices.Max over ints. -/

set_option maxHeartbeats 400000 in
theorem min_any (A : Option Addr) (n cap : Nat) (xs : List Int) (w : World) (hl : xs.length = n) (hp : 0 < n) (hm : n ≤ 9223372036854775807) (h : Ints w A xs) :
    Calls Try.prog 57 #[.slice A n cap] w fun e w' => e = .returned (.int .i64 (lmin xs)) ∧ w = w' := by
  obtain ⟨ad, rfl, hb, hc⟩ := h.some_ (by omega)
  obtain ⟨x0, hx0⟩ : ∃ x, xs[0]? = some x := ⟨_, List.getElem?_eq_getElem (by omega)⟩
  have c0 : w.cell? ad = some (.int .i64 x0) := hc 0 x0 hx0
  have e0 : lmin (xs.take 1) = x0 := by rw [take_succ' hx0]; simp [lmin]
  have HE := Lib.hid e0
  have HC := Lib.hid hc
  have HL := Lib.hid hl
  have HX0 := Lib.hid hx0
  clear hc hl h hb e0 hx0
  go_enter Try.func57, Try.ntmps57
  go_wp2
  go_loop [3, 4] (fun m i => ∃ k : Nat, 1 ≤ k ∧ k ≤ n ∧ i = .int .i64 k ∧ m = .int .i64 (lmin (xs.take k))) (fun _ i => n - (intOf i).toNat)
  case atStart => exact ⟨1, by omega, by omega, rfl, by rw [HE.out]⟩
  case round =>
    obtain ⟨k, hk1, hk, rfl, rfl⟩ := hrel
    by_cases hlt : k < n
    · obtain ⟨x, hx⟩ : ∃ x, xs[k]? = some x := ⟨_, List.getElem?_eq_getElem (by rw [HL.out]; exact hlt)⟩
      have hcell := HC.out k x hx
      have HT := Lib.hid (lmin_take hx (by omega))
      have HX := Lib.hid hx
      clear hx
      go_wp2
      go_round
      case rel => exact ⟨k + 1, by omega, by omega, by go_num, val_int (by rw [HT.out]; split <;> omega)⟩
      case measure => simp [intOf]; omega
    · have HT : Hid (lmin (xs.take k) = lmin xs) := Lib.hid (by rw [List.take_of_length_le (by rw [HL.out]; omega)])
      go_wp2
      go_ret
      exact ⟨ret_int HT.out, rfl⟩

set_option maxHeartbeats 400000 in
theorem max_any (A : Option Addr) (n cap : Nat) (xs : List Int) (w : World) (hl : xs.length = n) (hp : 0 < n) (hm : n ≤ 9223372036854775807) (h : Ints w A xs) :
    Calls Try.prog 58 #[.slice A n cap] w fun e w' => e = .returned (.int .i64 (lmax xs)) ∧ w = w' := by
  obtain ⟨ad, rfl, hb, hc⟩ := h.some_ (by omega)
  obtain ⟨x0, hx0⟩ : ∃ x, xs[0]? = some x := ⟨_, List.getElem?_eq_getElem (by omega)⟩
  have c0 : w.cell? ad = some (.int .i64 x0) := hc 0 x0 hx0
  have e0 : lmax (xs.take 1) = x0 := by rw [take_succ' hx0]; simp [lmax]
  have HE := Lib.hid e0
  have HC := Lib.hid hc
  have HL := Lib.hid hl
  have HX0 := Lib.hid hx0
  clear hc hl h hb e0 hx0
  go_enter Try.func58, Try.ntmps58
  go_wp2
  go_loop [3, 4] (fun m i => ∃ k : Nat, 1 ≤ k ∧ k ≤ n ∧ i = .int .i64 k ∧ m = .int .i64 (lmax (xs.take k))) (fun _ i => n - (intOf i).toNat)
  case atStart => exact ⟨1, by omega, by omega, rfl, by rw [HE.out]⟩
  case round =>
    obtain ⟨k, hk1, hk, rfl, rfl⟩ := hrel
    by_cases hlt : k < n
    · obtain ⟨x, hx⟩ : ∃ x, xs[k]? = some x := ⟨_, List.getElem?_eq_getElem (by rw [HL.out]; exact hlt)⟩
      have hcell := HC.out k x hx
      have HT := Lib.hid (lmax_take hx (by omega))
      have HX := Lib.hid hx
      clear hx
      go_wp2
      go_round
      case rel => exact ⟨k + 1, by omega, by omega, by go_num, val_int (by rw [HT.out]; split <;> omega)⟩
      case measure => simp [intOf]; omega
    · have HT : Hid (lmax (xs.take k) = lmax xs) := Lib.hid (by rw [List.take_of_length_le (by rw [HL.out]; omega)])
      go_wp2
      go_ret
      exact ⟨ret_int HT.out, rfl⟩

/- Contracts: goods, valid of package market, and slices.ContainsFunc there. -/

theorem mgoods_any (A : Option Addr) (n c : Nat) (U : Option Addr) (m d : Nat) (B : List Int) (V : List (List Int)) (w : World) (h : MktAt w A n U m B V) (hm : 1 ≤ m) :
    Calls Try.prog 53 #[mktV A n c U m d] w fun e w' => e = .returned (.int .i64 (goodsN V : Nat)) ∧ Below w.heap.size w w' := by
  obtain ⟨ad, rfl, hb, hc⟩ := h.uses.some_ (by rw [h.hV]; omega)
  obtain ⟨R, cr, h1, hrest⟩ := hc 0 _ (rowV_some (by rw [h.hV]; omega))
  clear hrest
  have c0 : (w.alloc (.cells #[.slice A n c, .slice (some ad) m d] 30)).cell? ad = some (.slice R (goodsN V) cr) := (World.cell?_alloc_lt _ _ _ hb).trans h1
  have l1 : (0 : Int) < (m : Int) := by omega
  clear h hc h1
  unfold mktV
  go_enter Try.func53, Try.ntmps53
  go_wp2_with fail
  go_ret
  exact ⟨rfl, (Below.refl _ _).alloc (Nat.le_refl _) _⟩

/-- The test that a good is of use. -/
theorem mvalid1_any (R : Option Addr) (k c : Nat) (r : List Int) (b g : Nat) (w : World) (hl : r.length = k) (hg : g < k) (h : Ints w R r) (hb : w.cell? ⟨b, 0, none⟩ = some (.int .i64 g)) :
    Calls Try.prog 60 #[.slice R k c, .pointer (some ⟨b, 0, none⟩)] w fun e w' => e = .returned (.bool (decide (0 < r.getD g 0))) ∧ w = w' := by
  obtain ⟨ad, rfl, _, hc⟩ := h.some_ (by omega)
  obtain ⟨x, hx⟩ : ∃ x, r[g]? = some x := ⟨_, List.getElem?_eq_getElem (by omega)⟩
  have c0 := hc g x hx
  have e : r.getD g 0 = x := by rw [List.getD_eq_getElem?_getD, hx]; rfl
  rw [e]
  clear hc hx h e
  have l1 : (g : Int) < (k : Int) := by omega
  go_enter Try.func60, Try.ntmps60
  go_wp2_with fail
  go_ret
  exact ⟨rfl, rfl⟩
set_option maxRecDepth 100000 in
set_option maxHeartbeats 800000 in
theorem indexM_any (U : Option Addr) (m d k : Nat) (V : List (List Int)) (b g : Nat) (w : World) (hV : V.length = m) (hm : m ≤ 1000) (hr : ∀ r ∈ V, r.length = k) (hg : g < k) (h : Mat w U V) (hb : w.cell? ⟨b, 0, none⟩ = some (.int .i64 g)) :
    Calls Try.prog 69 #[.slice U m d, .func (.func 60) #[] #[.pointer (some ⟨b, 0, none⟩)]] w fun e w' => ∃ r : Int, e = .returned (.int .i64 r) ∧ w = w' ∧ -1 ≤ r ∧ decide (0 ≤ r) = wanted V g := by
  have hI := fun (hp : 0 < V.length) => h.some_ hp
  have H := Lib.hid (And.intro hV (And.intro hI (And.intro hr hb)))
  clear hV h hI hr hb
  go_enter Try.func69, Try.ntmps69
  go_wp2_with fail
  go_loop [8] (fun i => ∃ j : Nat, j ≤ m ∧ i = .int .i64 j ∧ (V.take j).any (fun r => decide (0 < r.getD g 0)) = false) (fun i => m - (intOf i).toNat)
  case atStart => exact ⟨0, Nat.zero_le _, rfl, by simp⟩
  case round =>
    obtain ⟨j, hj, rfl, ha⟩ := hrel
    have HA := Lib.hid ha
    clear ha
    by_cases hlt : j < m
    · obtain ⟨hV, hI, hr, hb⟩ := H.out
      obtain ⟨ad, rfl, _, hc⟩ := hI (by omega)
      have hrow : V[j]? = some (rowV V j) := rowV_some (by omega)
      obtain ⟨R, cr, c0, _, _, hR⟩ := hc j _ hrow
      have hlr := hr _ (List.mem_of_getElem? hrow)
      rw [hlr] at c0
      have HX := Lib.hid (And.intro hrow (And.intro hlr (And.intro hR hb)))
      clear hV hI hr hb hc hrow hlr hR
      go_wp2_with fail
      refine (mvalid1_any R k cr (rowV V j) b g _ HX.out.2.1 hg HX.out.2.2.1 HX.out.2.2.2).mono ?_
      rintro e w' ⟨rfl, rfl⟩
      cases hd : decide (0 < (rowV V j).getD g 0)
      · have HN := Lib.hid (any_take_s HX.out.1 HA.out hd)
        clear hd
        go_wp2_with fail
        go_round
        case rel => exact ⟨j + 1, by omega, by go_num, HN.out⟩
        case measure => simp [intOf]; omega
      · have HN : Hid (wanted V g = true) := Lib.hid (by
          unfold wanted
          rw [List.any_eq_true]
          exact ⟨_, List.mem_of_getElem? HX.out.1, hd⟩)
        clear hd
        go_wp2_with fail
        go_ret
        exact ⟨(j : Int), rfl, rfl, by omega, by rw [HN.out, decide_eq_true (by omega)]⟩
    · have HN : Hid (wanted V g = false) := Lib.hid (by have h := HA.out; rw [List.take_of_length_le (by rw [H.out.1]; omega)] at h; exact h)
      go_wp2_with fail
      go_ret
      exact ⟨-1, rfl, rfl, by omega, by rw [HN.out]; rfl⟩
theorem containsM_any (U : Option Addr) (m d k : Nat) (V : List (List Int)) (b g : Nat) (w : World) (hV : V.length = m) (hm : m ≤ 1000) (hr : ∀ r ∈ V, r.length = k) (hg : g < k) (h : Mat w U V) (hb : w.cell? ⟨b, 0, none⟩ = some (.int .i64 g)) :
    Calls Try.prog 59 #[.slice U m d, .func (.func 60) #[] #[.pointer (some ⟨b, 0, none⟩)]] w fun e w' => e = .returned (.bool (wanted V g)) ∧ w = w' := by
  have H := Lib.hid (indexM_any U m d k V b g w hV hm hr hg h hb)
  clear hV hr h hb
  go_enter Try.func59, Try.ntmps59
  go_wp2_with fail
  refine H.out.mono ?_
  rintro e w' ⟨r, rfl, rfl, hr, hd⟩
  have HD := Lib.hid hd
  clear hd
  go_wp2_with fail
  go_ret
  exact ⟨ret_bool HD.out, rfl⟩

/- Bits of sets of at most a few players, as the walk writes them. No program. -/

theorem ofInt_i64 (a : Nat) (ha : a < 9223372036854775808) : (BitVec.ofInt 64 (a : Int)).toNat = a := by
  rw [BitVec.ofInt_natCast, BitVec.toNat_ofNat]; exact Nat.mod_eq_of_lt (by omega)
theorem and_nat (a b : Nat) (ha : a < 9223372036854775808) (hb : b < 9223372036854775808) : bits .and .i64 (a : Int) (b : Int) = ((a &&& b : Nat) : Int) := by
  have hx : a &&& b < 2 ^ 63 := Nat.and_lt_two_pow _ (by omega)
  show IntKind.i64.wrap ((BitVec.ofInt 64 (a : Int) &&& BitVec.ofInt 64 (b : Int)).toNat : Int) = _
  rw [BitVec.toNat_and, ofInt_i64 a ha, ofInt_i64 b hb, IntKind.wrap_i64]
  omega
theorem or_nat (a b : Nat) (ha : a < 9223372036854775808) (hb : b < 9223372036854775808) : bits .or .i64 (a : Int) (b : Int) = ((a ||| b : Nat) : Int) := by
  have hx : a ||| b < 2 ^ 63 := Nat.or_lt_two_pow (by omega) (by omega)
  show IntKind.i64.wrap ((BitVec.ofInt 64 (a : Int) ||| BitVec.ofInt 64 (b : Int)).toNat : Int) = _
  rw [BitVec.toNat_or, ofInt_i64 a ha, ofInt_i64 b hb, IntKind.wrap_i64]
  omega
theorem pow_wrap (x : Nat) (hx : x < 16) : IntKind.i64.wrap ((2 : Int) ^ x) = ((2 ^ x : Nat) : Int) := by
  have : ∀ x : Fin 16, IntKind.i64.wrap ((2 : Int) ^ x.val) = ((2 ^ x.val : Nat) : Int) := by decide +kernel
  exact this ⟨x, hx⟩
theorem pow_lt {x : Nat} (hx : x < 16) : 2 ^ x < 65536 := by
  have : ∀ x : Fin 16, 2 ^ x.val < 65536 := by decide +kernel
  exact this ⟨x, hx⟩
theorem wrapEq (x : Int) : IntKind.i64.wrap x = wrap64 x := by unfold wrap64; rw [IntKind.wrap_i64]
/-- 'set | 1 << x', in the two spellings of the walk. -/
theorem or_pow (set x : Nat) (hs : set < 65536) (hx : x < 16) : bits .or .i64 (set : Int) (IntKind.i64.wrap ((2 : Int) ^ x)) = ((set ||| 2 ^ x : Nat) : Int) := by
  have := pow_lt hx
  rw [pow_wrap x hx, or_nat _ _ (by omega) (by omega)]
theorem or_pow' (set x : Nat) (hs : set < 65536) (hx : x < 16) : bits .or .i64 (set : Int) (wrap64 ((2 : Int) ^ x)) = ((set ||| 2 ^ x : Nat) : Int) := by
  rw [← wrapEq]; exact or_pow set x hs hx
/-- 'set >> k & 1', as the walk writes it. -/
theorem and_shr (set k : Nat) (h : set < 9223372036854775808) : bits .and .i64 ((set : Int) / 2 ^ k) 1 = ((if set.testBit k then 1 else 0 : Nat) : Int) := by
  have e : ((set : Int) / 2 ^ k) = ((set / 2 ^ k : Nat) : Int) := by simp
  have hle : set / 2 ^ k ≤ set := Nat.div_le_self _ _
  have e1 : (1 : Int) = ((1 : Nat) : Int) := rfl
  rw [e, e1, and_nat _ _ (by omega) (by omega), Nat.and_one_is_mod, Nat.testBit_eq_decide_div_mod_eq]
  have : set / 2 ^ k % 2 < 2 := Nat.mod_lt _ (by omega)
  by_cases h1 : set / 2 ^ k % 2 = 1
  · simp [h1]
  · have h0 : set / 2 ^ k % 2 = 0 := by omega
    simp [h0]
theorem and_shr_t {set k : Nat} (h : set < 9223372036854775808) (ht : set.testBit k = true) : (bits .and .i64 ((set : Int) / 2 ^ k) 1 == 1) = true := by
  rw [and_shr set k h, ht]; rfl
theorem and_shr_f {set k : Nat} (h : set < 9223372036854775808) (ht : set.testBit k = false) : (bits .and .i64 ((set : Int) / 2 ^ k) 1 == 1) = false := by
  rw [and_shr set k h, ht]; rfl
theorem or_pow_lt {set x n : Nat} (hs : set < 2 ^ n) (hx : x < n) : set ||| 2 ^ x < 2 ^ n := Nat.or_lt_two_pow hs (Nat.pow_lt_pow_right (by omega) hx)

/- Contract: wants of package market. -/

/-- '==' of two fractions of package market. -/
theorem run_eq_mfrac (p q : Rat) (w : World) : (binOp .eql 77 (.agg #[.int .i64 p.num, .int .i64 (p.den : Int)]) (.agg #[.int .i64 q.num, .int .i64 (q.den : Int)])).run Try.prog w = .ok (.bool (decide (p = q))) w := by
  have e0 : decide (p = q) = (decide (p.num = q.num) && decide ((p.den : Int) = (q.den : Int))) := by
    rw [Bool.eq_iff_iff]
    simp only [decide_eq_true_eq, Bool.and_eq_true]
    exact ⟨by rintro rfl; exact ⟨rfl, rfl⟩, fun h => Rat.ext h.1 (by omega)⟩
  rw [e0]
  by_cases h1 : p.num = q.num
  · by_cases h2 : (p.den : Int) = (q.den : Int)
    · simp only [h1, h2]; go_simp
    · simp only [h1]; go_simp
  · go_simp
theorem run_ne_mfrac (p q : Rat) (w : World) : (binOp .neq 77 (.agg #[.int .i64 p.num, .int .i64 (p.den : Int)]) (.agg #[.int .i64 q.num, .int .i64 (q.den : Int)])).run Try.prog w = .ok (.bool (!decide (p = q))) w := by
  have e0 : decide (p = q) = (decide (p.num = q.num) && decide ((p.den : Int) = (q.den : Int))) := by
    rw [Bool.eq_iff_iff]
    simp only [decide_eq_true_eq, Bool.and_eq_true]
    exact ⟨by rintro rfl; exact ⟨rfl, rfl⟩, fun h => Rat.ext h.1 (by omega)⟩
  rw [e0]
  by_cases h1 : p.num = q.num
  · by_cases h2 : (p.den : Int) = (q.den : Int)
    · simp only [h1, h2]; go_simp
    · simp only [h1]; go_simp
  · go_simp
theorem rowOk_getD {k : Nat} {r : List Int} (h : rowOk k r = true) (g : Nat) : 0 ≤ r.getD g 0 ∧ r.getD g 0 ≤ 20 := by
  have h2 := (rowOk_iff.1 h).2.1
  rw [List.getD_eq_getElem?_getD]
  cases e : r[g]? with
  | none => simp
  | some x => exact h2 x (List.mem_of_getElem? e)
set_option maxRecDepth 100000 in
set_option maxHeartbeats 4000000 in
theorem mwants_any (A : Option Addr) (n c : Nat) (U : Option Addr) (m d i : Nat) (P : Option Addr) (k cp : Nat) (B : List Int) (V : List (List Int)) (p : List Rat) (w : World) (h : MktAt w A n U m B V) (hm : m ≤ 1000) (hi : i < m) (hk : p.length = k) (hk3 : 1 ≤ k ∧ k ≤ 3)
    (hr : rowOk k (rowV V i) = true) (hp : ∀ q ∈ p, PrOk q) (hP : Fracs w P p) :
    Calls Try.prog 54 #[mktV A n c U m d, .int .i64 i, .slice P k cp] w fun e w' => e = .returned (.int .i64 (wantS (rowV V i) p : Nat)) ∧ Below w.heap.size w w' := by
  obtain ⟨au, rfl, hub, hcu⟩ := h.uses.some_ (by rw [h.hV]; omega)
  obtain ⟨R, cr, c0, _, _, hR⟩ := hcu i _ (rowV_some (by rw [h.hV]; exact hi))
  have hrl := (rowOk_iff.1 hr).1
  rw [hrl] at c0
  obtain ⟨ar, rfl, hrb, hcr⟩ := hR.some_ (by omega)
  obtain ⟨ap, rfl, hpb, hcp⟩ := hP.some_ (by omega)
  have hg0 := rowOk_getD hr
  obtain ⟨r, hre⟩ : ∃ r, r = rowV V i := ⟨_, rfl⟩
  rw [← hre] at hrl hcr hg0 hr ⊢
  have hpg : ∀ g, g < k → PrOk (p.getD g 0) := fun g hg => hp _ (by rw [List.getD_eq_getElem?_getD, List.getElem?_eq_getElem (by omega)]; exact List.getElem_mem _)
  have hb0 : Below w.heap.size w (w.alloc (.cells #[.slice A n c, .slice (some au) m d] 30)) := (Below.refl _ _).alloc (Nat.le_refl _) _
  have hBx : Blk (w.alloc (.cells #[.slice A n c, .slice (some au) m d] 30)) w.heap.size 30 #[.slice A n c, .slice (some au) m d] := Blk.new w _ _ rfl
  have H := Lib.hid (And.intro hrl (And.intro hcr (And.intro hcp (And.intro hg0 (And.intro hpg (And.intro hb0 (And.intro hBx (And.intro c0 hk))))))))
  have l1 : (i : Int) < (m : Int) := by omega
  have hsz : (w.alloc (.cells #[.slice A n c, .slice (some au) m d] 30)).heap.size = w.heap.size + 1 := by simp
  clear h hcu hR hre hrl hcr hP hcp hp hr hg0 hpg hb0 hBx c0 hk hi
  unfold mktV
  go_enter Try.func54, Try.ntmps54
  go_wp2_with fail
  refine (mwhole_any 0 _).mono ?_
  rintro e w1 ⟨rfl, hb1⟩
  rw [fr_int]
  have hw1 : w.heap.size + 1 ≤ w1.heap.size := by have := hb1.size; omega
  have hB1 : Blk w1 w.heap.size 30 #[.slice A n c, .slice (some au) m d] := H.out.2.2.2.2.2.2.1.below hb1 (by omega)
  have hbw1 := H.out.2.2.2.2.2.1.trans (hb1.mono (by omega))
  have hB2 : Blk (w1.alloc (.cells #[.int .i64 0, .int .i64 1] 77)) w.heap.size 30 #[.slice A n c, .slice (some au) m d] := hB1.alloc _
  obtain ⟨x0, x1, _, _⟩ := hB2.at2
  have c0' : (w1.alloc (.cells #[.int .i64 0, .int .i64 1] 77)).cell? (au.add i) = some (.slice (some ar) k cr) :=
    (World.cell?_alloc_lt _ _ _ (by have := lt_of_cell H.out.2.2.2.2.2.2.2.1; have := hbw1.size; omega)).trans ((hbw1.cell (lt_of_cell H.out.2.2.2.2.2.2.2.1)).trans H.out.2.2.2.2.2.2.2.1)
  have H1 := Lib.hid (And.intro hbw1 hB1)
  clear hb1 hB1 hB2 hbw1
  have hS1 : Blk (w1.alloc (.cells #[.int .i64 0, .int .i64 1] 77)) w1.heap.size 77 #[.int .i64 0, .int .i64 1] := Blk.new _ _ _ rfl
  have HS1 := Lib.hid hS1
  clear hS1
  go_wp2_with fail
  go_loopw [7, 19] (fun sv iv wr => ∃ g : Nat, g ≤ k ∧ iv = .int .i64 g ∧ sv = .int .i64 ((wTo r p g).1 : Nat) ∧ Blk wr w1.heap.size 77 #[.int .i64 (wTo r p g).2.num, .int .i64 ((wTo r p g).2.den : Int)] ∧ Below w1.heap.size w1 wr) (fun _ iv _ => k - (intOf iv).toNat)
  case atStart => exact ⟨0, Nat.zero_le _, rfl, rfl, HS1.out, (Below.refl _ _).alloc (Nat.le_refl _) _⟩
  case round =>
    obtain ⟨g, hg, rfl, rfl, hB, hbl⟩ := hrel
    have hBlt := hB.lt
    have HR := Lib.hid (And.intro hB (And.intro hbl (And.intro (H1.out.2.below hbl (by omega)) (H1.out.1.trans (hbl.mono (by omega))))))
    clear hB hbl
    by_cases hlt : g < k
    · obtain ⟨u, hu⟩ : ∃ u, r[g]? = some u := ⟨_, List.getElem?_eq_getElem (by rw [H.out.1]; exact hlt)⟩
      obtain ⟨q, hq⟩ : ∃ q, p[g]? = some q := ⟨_, List.getElem?_eq_getElem (by rw [H.out.2.2.2.2.2.2.2.2]; exact hlt)⟩
      have hug : r.getD g 0 = u := by rw [List.getD_eq_getElem?_getD, hu]; rfl
      have hqg : p.getD g 0 = q := by rw [List.getD_eq_getElem?_getD, hq]; rfl
      have hub2 := H.out.2.2.2.1 g
      have hqok := H.out.2.2.2.2.1 g hlt
      have hbb := wTo_bds H.out.2.2.2.1 (k := g) fun y hy => H.out.2.2.2.2.1 y (by omega)
      have hux : useP r p g = (u : Rat) / q := by unfold useP; rw [hug, hqg]
      rw [hug] at hub2
      rw [hqg] at hqok
      have hxb := div_bds hub2 hqok
      rw [← hux] at hxb
      have hbit : (wTo r p g).1 < 8 := by
        have h1 := wTo_lt r p g
        have h2 : (2 : Nat) ^ g ≤ 8 := Nat.pow_le_pow_right (n := 2) (by omega) (show g ≤ 3 by omega)
        omega
      have hnext : wTo r p (g + 1) = if (wTo r p g).2 < useP r p g then (2 ^ g, useP r p g) else if useP r p g = (wTo r p g).2 then ((wTo r p g).1 ||| 2 ^ g, (wTo r p g).2) else wTo r p g := rfl
      have e1 := (HR.out.2.2.2.cell (lt_of_cell (H.out.2.1 g u hu))).trans (H.out.2.1 g u hu)
      obtain ⟨p1, p2⟩ := H.out.2.2.1 g q hq
      have e2 := (HR.out.2.2.2.cell (lt_of_cell p1)).trans p1
      have e3 := (HR.out.2.2.2.cell (lt_of_cell p2)).trans p2
      have hqd := den_pos q
      obtain ⟨q1, q2, q3⟩ := hqok
      have hm1 := mul_bd (a := u) (b := (q.den : Int)) (m := 20) (n := 1048576) (by omega) (by omega) (by omega) (by omega)
      have hm2 := mul_bd (a := (1 : Int)) (b := q.num) (m := 1) (n := 1048576) (by omega) (by omega) (by omega) (by omega)
      have HOV := Lib.hid fun w => mover_raw (u : Rat) q w (by omega) (by rw [Rat.num_intCast]; omega) (by rw [Rat.num_intCast]; omega) (by rw [Rat.den_intCast]; omega) (by rw [Rat.num_intCast]; omega) (by omega) (by rw [Rat.den_intCast]; omega) (by omega)
      rw [← hux] at HOV
      obtain ⟨x, hx⟩ : ∃ x, x = useP r p g := ⟨_, rfl⟩
      obtain ⟨bs, hbs⟩ : ∃ bs, bs = (wTo r p g).2 := ⟨_, rfl⟩
      obtain ⟨st, hst⟩ : ∃ st, st = (wTo r p g).1 := ⟨_, rfl⟩
      rw [← hx] at hxb hnext HOV
      rw [← hbs] at hbb hnext HR
      rw [← hst] at hbit hnext ⊢
      have hbd := den_pos bs
      have hxd := den_pos x
      have hl1 := mul_bd (a := bs.num) (b := (x.den : Int)) (m := 20971520) (n := 1048576) (by omega) (by omega) (by omega) (by omega)
      have hl2 := mul_bd (a := x.num) (b := (bs.den : Int)) (m := 20971520) (n := 1048576) (by omega) (by omega) (by omega) (by omega)
      have hl3 := mul_bd (a := (bs.den : Int)) (b := (x.den : Int)) (m := 1048576) (n := 1048576) (by omega) (by omega) (by omega) (by omega)
      have HLS := Lib.hid fun w => mless_raw bs x w (by omega) (by omega) (by omega) (by omega) (by omega) (by omega) (by omega) (by omega)
      have HN := Lib.hid (And.intro hnext hbit)
      have HST := Lib.hid (And.intro hst hbs)
      have HWN := Lib.hid fun w => mwhole_any u w
      have HE := Lib.hid (And.intro e1 (And.intro e2 e3))
      have c1 := e1
      clear hu hq hug hqg hux hbb hxb hx hbs hst hnext p1 p2 e1 e2 e3 hub2 q1 q2 q3 hm1 hm2 hl1 hl2 hl3 hbd hxd hqd
      unfold fr at HOV HLS HWN
      rw [Rat.num_intCast, Rat.den_intCast] at HOV HWN
      go_wp2_with fail
      have d2 : ∀ A' (s : DescA wr 77 #[.int .i64 0, .int .i64 0] A'), s.val.cell? (ap.add (g * 2)) = some (.int .i64 q.num) := fun A' s => s.cell HE.out.2.1
      have d3 : ∀ A' (s : DescA wr 77 #[.int .i64 0, .int .i64 0] A'), s.val.cell? ⟨(ap.add (g * 2)).block, (ap.add (g * 2)).off + 1, none⟩ = some (.int .i64 (q.den : Int)) := fun A' s => s.cell HE.out.2.2
      have HD := Lib.hid (And.intro d2 d3)
      clear d2 d3
      refine' wp_region_desc_alloc 7 1 77 #[.int .i64 0, .int .i64 0] al_frac (by kernel_rfl) (by kernel_rfl) (by kernel_rfl) (by kernel_rfl) _ ?hh ?hq
      case hh =>
        intro A' hne Q' hQ'
        have e2 := HD.out.1 A'
        have e3 := HD.out.2 A'
        have HW2 : Hid (∀ sd : DescA wr 77 #[.int .i64 0, .int .i64 0] A', Calls Try.prog 47 #[.int .i64 u] sd.val fun e w'' => e = .returned (.agg #[.int .i64 u, .int .i64 1]) ∧ ∃ s' : DescA wr 77 #[.int .i64 0, .int .i64 0] A', w'' = s'.val) := Lib.hid fun sd => Calls.descA_of (HWN.out _)
        have HO2 : Hid (∀ sd : DescA wr 77 #[.int .i64 0, .int .i64 0] A', Calls Try.prog 50 #[.agg #[.int .i64 u, .int .i64 1], .agg #[.int .i64 q.num, .int .i64 (q.den : Int)]] sd.val fun e w'' => e = .returned (.agg #[.int .i64 x.num, .int .i64 (x.den : Int)]) ∧ ∃ s' : DescA wr 77 #[.int .i64 0, .int .i64 0] A', w'' = s'.val) := Lib.hid fun sd => Calls.descA_of (HOV.out _)
        simp only [List.take_succ_cons, List.take_zero]
        repeat (go_big_quiet_step (first | (go_at_call 47; exact HW2.out _) | (go_at_call 50; exact HO2.out _)))
        refine wpQuiet_nil ?_
        exact hQ'
      case hq =>
        simp only [List.take_succ_cons, List.take_zero, List.drop_succ_cons, List.drop_zero]
        intro b _ sd
        have hb3 := sd.below
        obtain ⟨z5, B5⟩ := sd.blks b (.inl rfl)
        generalize sd.val = w4 at hb3 B5 ⊢
        unfold ptrB
        have B8 := HR.out.1.below hb3 hBlt
        have BM := HR.out.2.2.1.below hb3 (by omega)
        obtain ⟨a0, a1, k0, k1⟩ := B5.at2
        obtain ⟨b0, b1, m0, m1⟩ := B8.at2
        have n1 : w1.heap.size ≠ b := by omega
        have n0 : w.heap.size ≠ b := by omega
        have n2 : b ≠ w1.heap.size := by omega
        have hbl4 : Below w1.heap.size w1 w4 := HR.out.2.1.trans (hb3.mono HR.out.2.1.size)
        have hX : Blk ((w4.setCell ⟨b, 0, none⟩ (.int .i64 x.num)).setCell ⟨b, 1, none⟩ (.int .i64 (x.den : Int))) b 77 #[.int .i64 x.num, .int .i64 (x.den : Int)] := (B5.set_ 0 _).set_ 1 _
        have hBB := (B8.far (p := ⟨b, 0, none⟩) n1 (.int .i64 x.num)).far (p := ⟨b, 1, none⟩) n1 (.int .i64 (x.den : Int))
        have hbl5 := (hbl4.setCell (p := ⟨b, 0, none⟩) (by show w1.heap.size ≤ b; omega) (.int .i64 x.num)).setCell (p := ⟨b, 1, none⟩) (by show w1.heap.size ≤ b; omega) (.int .i64 (x.den : Int))
        have hz4 := hBB.lt
        have hzb := hX.lt
        have H4 := Lib.hid (And.intro hX (And.intro hBB hbl5))
        clear B5 B8 BM hb3 hbl4 hX hBB hbl5
        go_wp2_with fail
        refine (HLS.out _).mono ?_
        rintro e w5 ⟨rfl, hb5⟩
        have X5 := H4.out.1.below hb5 hzb
        have B5 := H4.out.2.1.below hb5 hz4
        have hbl6 := H4.out.2.2.trans (hb5.mono H4.out.2.2.size)
        obtain ⟨a0, a1, k0, k1⟩ := X5.at2
        obtain ⟨b0, b1, m0, m1⟩ := B5.at2
        by_cases hless : bs < x
        · have hd : decide (bs < x) = true := decide_eq_true hless
          have hn := HN.out.1
          rw [if_pos hless] at hn
          have hq := run_eq_mfrac x x
          rw [decide_eq_true rfl] at hq
          have hnew : Blk ((w5.setCell ⟨w1.heap.size, 0, none⟩ (.int .i64 x.num)).setCell ⟨w1.heap.size, 1, none⟩ (.int .i64 (x.den : Int))) w1.heap.size 77 #[.int .i64 x.num, .int .i64 (x.den : Int)] := (B5.set_ 0 _).set_ 1 _
          have H5 := Lib.hid (And.intro hnew (And.intro ((hbl6.setCell (p := ⟨w1.heap.size, 0, none⟩) (Nat.le_refl _) (.int .i64 x.num)).setCell (p := ⟨w1.heap.size, 1, none⟩) (Nat.le_refl _) (.int .i64 (x.den : Int))) hn))
          have ho := or_pow' 0 g (by omega) (by omega)
          rw [hd]
          clear hless hd hn hnew X5 B5 hbl6 hb5
          go_wp2_with fail
          go_region
          all_goals go_wp2_with fail
          all_goals go_roundw
          case rel => exact ⟨g + 1, by omega, by go_num, by rw [H5.out.2.2]; exact val_int (by simpa using ho), by rw [H5.out.2.2]; exact H5.out.1, H5.out.2.1.drew⟩
          case measure => simp [intOf]; omega
        · have hd : decide (bs < x) = false := decide_eq_false hless
          have hn := HN.out.1
          rw [if_neg hless] at hn
          have hq := run_eq_mfrac x bs
          have H5 := Lib.hid (And.intro B5 hbl6)
          rw [hd]
          by_cases heq : x = bs
          · rw [if_pos heq] at hn
            rw [decide_eq_true heq] at hq
            have HN2 := Lib.hid hn
            have ho := or_pow' st g (by have := HN.out.2; omega) (by omega)
            clear hless hd hn X5 B5 hbl6 hb5 heq
            go_wp2_with fail
            go_roundw
            case rel => exact ⟨g + 1, by omega, by go_num, by rw [HN2.out], by rw [HN2.out]; exact H5.out.1, H5.out.2⟩
            case measure => simp [intOf]; omega
          · rw [if_neg heq] at hn
            rw [decide_eq_false heq] at hq
            have HN2 := Lib.hid hn
            clear hless hd hn X5 B5 hbl6 hb5 heq
            go_wp2_with fail
            go_roundw
            case rel => exact ⟨g + 1, by omega, by go_num, val_int (by rw [HN2.out, ← HST.out.1]), by rw [HN2.out, ← HST.out.2]; exact H5.out.1, H5.out.2⟩
            case measure => simp [intOf]; omega
    · obtain rfl : g = k := by omega
      go_wp2_with fail
      go_ret
      exact ⟨ret_int (by unfold wantS; rw [H.out.1]), HR.out.2.2.2⟩

/- A block of fractions that are written one by one (market). -/

def prA (ps : List (Int × Int)) : Array Value := (pcells ps).toArray
theorem pcells_get : ∀ (ps : List (Int × Int)) (k : Nat), (pcells ps)[k * 2]? = (ps[k]?).map (fun p => Value.int .i64 p.1) ∧ (pcells ps)[k * 2 + 1]? = (ps[k]?).map (fun p => Value.int .i64 p.2)
  | [], k => by simp [pcells]
  | p :: ps, 0 => by simp [pcells]
  | p :: ps, k + 1 => by
    have ih := pcells_get ps k
    have e : pcells (p :: ps) = [Value.int .i64 p.1, Value.int .i64 p.2] ++ pcells ps := rfl
    rw [e, List.getElem?_append_right (by simp; omega), List.getElem?_append_right (by simp; omega)]
    simp only [List.length_cons, List.length_nil]
    rw [show (k + 1) * 2 - (0 + 1 + 1) = k * 2 by omega, show (k + 1) * 2 + 1 - (0 + 1 + 1) = k * 2 + 1 by omega]
    exact ih
theorem pcells_set : ∀ (ps : List (Int × Int)) (k : Nat) (a b : Int), ((pcells ps).set (k * 2) (.int .i64 a)).set (k * 2 + 1) (.int .i64 b) = pcells (ps.set k (a, b))
  | [], k, a, b => by simp [pcells]
  | p :: ps, 0, a, b => by simp [pcells]
  | p :: ps, k + 1, a, b => by
    have ih := pcells_set ps k a b
    show ((Value.int .i64 p.1 :: Value.int .i64 p.2 :: pcells ps).set ((k + 1) * 2) (.int .i64 a)).set ((k + 1) * 2 + 1) (.int .i64 b) = Value.int .i64 p.1 :: Value.int .i64 p.2 :: pcells (ps.set k (a, b))
    rw [show (k + 1) * 2 = k * 2 + 1 + 1 by omega, ← ih]
    rfl
/-- Block g is just these pairs. -/
def PrB (w : World) (g : Nat) (t : TypeId) (ps : List (Int × Int)) : Prop := Blk w g t (prA ps)
section
variable {w w' : World} {g : Nat} {t : TypeId} {ps : List (Int × Int)}
theorem PrB.lt (h : PrB w g t ps) : g < w.heap.size := Blk.lt h
theorem PrB.read {k : Nat} {a b : Int} (h : PrB w g t ps) (hk : ps[k]? = some (a, b)) : w.cell? ⟨g, k * 2, none⟩ = some (.int .i64 a) ∧ w.cell? ⟨g, k * 2 + 1, none⟩ = some (.int .i64 b) := by
  have hp := pcells_get ps k
  rw [Blk.cell h, Blk.cell h]
  unfold prA
  rw [List.getElem?_toArray, List.getElem?_toArray, hp.1, hp.2, hk]
  exact ⟨rfl, rfl⟩
theorem PrB.frozen (h : PrB w g t ps) (i : Nat) : w.frozen? ⟨g, i, none⟩ = false := Blk.frozen h i
theorem PrB.set_ (h : PrB w g t ps) (k : Nat) (a b : Int) : PrB ((w.setCell ⟨g, k * 2, none⟩ (.int .i64 a)).setCell ⟨g, k * 2 + 1, none⟩ (.int .i64 b)) g t (ps.set k (a, b)) := by
  have h1 := Blk.set_ (Blk.set_ h (k * 2) (.int .i64 a)) (k * 2 + 1) (.int .i64 b)
  have e : ((prA ps).setIfInBounds (k * 2) (.int .i64 a)).setIfInBounds (k * 2 + 1) (.int .i64 b) = prA (ps.set k (a, b)) := by
    apply Array.ext'
    simp only [prA, Array.toList_setIfInBounds]
    exact pcells_set ps k a b
  rw [e] at h1
  exact h1
theorem PrB.below {B : Nat} (h : PrB w g t ps) (hb : Below B w w') (hg : g < B) : PrB w' g t ps := Blk.below h hb hg
theorem PrB.prs (h : PrB w g t ps) : Prs w (some ⟨g, 0, none⟩) ps := Blk.at_ h
end
theorem pcells_zero (n : Nat) : pcells (List.replicate n (0, 0)) = List.replicate (n * 2) (.int .i64 0) := by
  induction n with
  | zero => rfl
  | succ n ih =>
    rw [List.replicate_succ, show (n + 1) * 2 = n * 2 + 1 + 1 by omega, List.replicate_succ, List.replicate_succ, ← ih]
    rfl
theorem made_pairs (n : Nat) : madeCells (Value.agg #[.int .i64 0, .int .i64 0]).cells (n * 2) = prA (List.replicate n (0, 0)) := by
  have hz : (Value.agg #[.int .i64 0, .int .i64 0]).cells = #[.int .i64 0, .int .i64 0] := rfl
  rw [hz]
  apply Array.ext'
  unfold prA
  rw [pcells_zero]
  apply List.ext_getElem
  · simp [size_madeCells]
  · intro i h1 h2
    have h3 : i % 2 = 0 ∨ i % 2 = 1 := by omega
    simp only [madeCells, Array.getElem_toList, Array.getElem_map, Array.getElem_range, List.getElem_replicate]
    show #[Value.int .i64 0, .int .i64 0][i % 2]! = _
    rcases h3 with h | h <;> rw [h] <;> rfl

/- Slices of fractions for the laws of append. -/

theorem info_frac : (Try.prog.info? 37).map (fun i => (i.zero, i.size, i.bytes)) = some (some (.agg #[.int .i64 0, .int .i64 0]), 2, 16) := by kernel_rfl
theorem sty_frac : STy 26 37 (.agg #[.int .i64 0, .int .i64 0]) 2 16 := ⟨Try.underlying26, info_frac, rfl, by decide, by decide⟩

/- The slices of package market for the laws of append; contracts: fracs and read. -/

theorem info_mfrac : (Try.prog.info? 77).map (fun i => (i.zero, i.size, i.bytes)) = some (some (.agg #[.int .i64 0, .int .i64 0]), 2, 16) := by kernel_rfl
theorem sty_mfrac : STy 63 77 (.agg #[.int .i64 0, .int .i64 0]) 2 16 := ⟨Try.underlying63, info_mfrac, rfl, by decide, by decide⟩
theorem info_mfracs : (Try.prog.info? 63).map (fun i => (i.zero, i.size, i.bytes)) = some (some (.slice none 0 0), 1, 24) := by kernel_rfl
theorem sty_mfracss : STy 64 63 (.slice none 0 0) 1 24 := ⟨Try.underlying64, info_mfracs, rfl, by decide, by decide⟩
theorem info_fracs : (Try.prog.info? 26).map (fun i => (i.zero, i.size, i.bytes)) = some (some (.slice none 0 0), 1, 24) := by kernel_rfl
theorem sty_fracss : STy 43 26 (.slice none 0 0) 1 24 := ⟨Try.underlying43, info_fracs, rfl, by decide, by decide⟩
theorem take_snoc {α : Type} {l : List α} {k : Nat} {x : α} (h : l[k]? = some x) : l.take (k + 1) = l.take k ++ [x] := by rw [List.take_add_one, h]; rfl

/-- Numbers that an int can hold. -/
def I64s (ps : List (Int × Int)) : Prop := ∀ p ∈ ps, (-9223372036854775808 ≤ p.1 ∧ p.1 ≤ 9223372036854775807) ∧ -9223372036854775808 ≤ p.2 ∧ p.2 ≤ 9223372036854775807
/-- One element more, its own cells' address given by an equation. -/
theorem app1g {T e : TypeId} {z : Value} {size bytes : Nat} (ty : STy T e z size bytes) {ops : Array Oper} {rest : List Oper} {o : Oper} {a : Act} {Q : Exit → Act → World → Prop} {w : World}
    (hgd : o.guard = none) (s x : Operand) (ho : o.op = .call { callee := .builtin .append, args := #[s, x], argTypes := #[T, T] })
    (base : Nat) (A : Option Addr) (n k : Nat) (xs : List Value) (cs : Array Value) (hcs : cs.size = size) (h1 : ∀ u ∈ cs.toList, u.oneCell' = true)
    (hs : a.eval s = .slice A n k) (hown : w.ownsRow base e size (.slice A n k) n xs) (g : Nat) (hx : a.eval x = .slice (some ⟨g, 0, none⟩) 1 1) (hg : g = w.heap.size)
    (hn : n ≤ 1000000) (hb : base ≤ w.heap.size)
    (h : ∀ (A' : Option Addr) (k' : Nat) (w' : World), w'.ownsRow base e size (.slice A' (n + 1) k') (n + 1) (xs ++ cs.toList) → w.grownBy w' (Value.slice A n k).ownBlock → Below base w w' → n + 1 ≤ k' → k' ≤ 9223372036854775807 →
      wpList Try.prog ops Q rest (a.put o.dst (.slice A' (n + 1) k')) w') : wpList Try.prog ops Q (o :: rest) a (w.alloc (.cells cs e)) := by
  subst hg
  exact app1 ty hgd s x ho base A n k xs cs hcs h1 hs hown hx hn hb h
set_option maxRecDepth 100000 in
set_option maxHeartbeats 1600000 in
theorem mfracs_any (A : Option Addr) (n cap : Nat) (ps : List (Int × Int)) (w : World) (hl : ps.length = n) (hn : n ≤ 1000) (h : Prs w A ps) :
    Calls Try.prog 39 #[.slice A n cap] w fun e w' => ∃ A' c', e = .returned (.slice A' n c') ∧ w'.ownsRow w.heap.size 37 2 (.slice A' n c') n (pcells ps) ∧ Below w.heap.size w w' := by
  have hI := fun (hp : 0 < ps.length) => h.some_ hp
  have H := Lib.hid (And.intro hl hI)
  clear hl h hI
  go_enter Try.func39, Try.ntmps39
  go_wp2_with fail
  go_loopw [3, 8] (fun ov iv wr => ∃ (k : Nat) (A2 : Option Addr) (c2 : Nat), k ≤ n ∧ iv = .int .i64 k ∧ ov = .slice A2 k c2 ∧ wr.ownsRow w.heap.size 37 2 (.slice A2 k c2) k ((pcells ps).take (k * 2)) ∧ Below w.heap.size w wr) (fun _ iv _ => n - (intOf iv).toNat)
  case atStart => exact ⟨0, none, 0, Nat.zero_le _, rfl, rfl, by simpa using World.ownsRow_nil _ _ _ _, Below.refl _ _⟩
  case round =>
    obtain ⟨k, A2, c2, hk, rfl, rfl, hown, hbl⟩ := hrel
    have HR := Lib.hid (And.intro hown hbl)
    clear hown hbl
    by_cases hlt : k < n
    · obtain ⟨ad, rfl, _, hc⟩ := H.out.2 (by rw [H.out.1]; omega)
      obtain ⟨⟨a, b⟩, hp⟩ : ∃ p, ps[k]? = some p := ⟨_, List.getElem?_eq_getElem (by rw [H.out.1]; exact hlt)⟩
      obtain ⟨g1, g2⟩ := hc k _ hp
      have c0 := (HR.out.2.cell (lt_of_cell g1)).trans g1
      have c1 := (HR.out.2.cell (lt_of_cell g2)).trans g2
      have HNEW : Hid ((pcells ps).take ((k + 1) * 2) = (pcells ps).take (k * 2) ++ [.int .i64 a, .int .i64 b]) := Lib.hid (by
        rw [← pcells_take, ← pcells_take, take_snoc hp, pcells_snoc])
      have hbz : Below wr.heap.size wr (wr.alloc (.cells #[.int .i64 a, .int .i64 b] 77)) := (Below.refl _ _).alloc (Nat.le_refl _) _
      have hown2 := own_below HR.out.1 hbz
      have HO := Lib.hid (And.intro hown2 (HR.out.2.trans (hbz.mono HR.out.2.size)))
      have hsz : w.heap.size ≤ (wr.alloc (.cells #[.int .i64 a, .int .i64 b] 77)).heap.size := HO.out.2.size
      clear hc hp g1 g2 hown2 hbz
      go_wp2_with (at_builtin; refine app1g sty_frac rfl _ _ rfl w.heap.size A2 k c2 _ #[.int .i64 a, .int .i64 b] rfl (by simp [Value.oneCell']) rfl HO.out.1 _ rfl (by simp) (by omega) hsz ?_)
      intro A4 k4 w4 hown4 _ hbl4 hk41 hk42
      rw [← HNEW.out] at hown4
      have HR4 := Lib.hid (And.intro hown4 (HO.out.2.trans hbl4))
      clear hown4 hbl4
      go_wp2_with fail
      go_roundw
      case rel => exact ⟨k + 1, A4, k4, by omega, by go_num, rfl, HR4.out.1, HR4.out.2⟩
      case measure => simp [intOf]; omega
    · obtain rfl : n = k := by omega
      go_wp2_with fail
      go_ret
      refine ⟨A2, c2, rfl, ?_, HR.out.2⟩
      have h := HR.out.1
      rwa [List.take_of_length_le (by rw [pcells_length, H.out.1]; exact Nat.le_refl _)] at h

/- make of fractions and of rows of fractions in package market. -/
theorem make_mfracs (n : Nat) (hn : n ≤ 1000000) (w : World) : (Instr.makeSlice 63 (.int .i64 n) (.int .i64 n)).run Try.prog w = .ok (.slice (some ⟨w.heap.size, 0, none⟩) n n) (w.alloc (.cells (prA (List.replicate n (0, 0))) 77)) := by
  obtain ⟨i0, hi, hz0, hz1, hz2⟩ := info_parts info_mfrac
  have hr := run_make (P := Try.prog) w 63 77 i0 (.agg #[.int .i64 0, .int .i64 0]) Try.underlying63 hi hz0 .i64 .i64 n n (by omega) (by omega) (by rw [hz2]; omega) (by omega)
  simp only [Int.toNat_natCast, hz1] at hr
  rw [hr, made_pairs]
theorem make_mfracss (n : Nat) (hn : n ≤ 1000000) (w : World) : (Instr.makeSlice 64 (.int .i64 n) (.int .i64 n)).run Try.prog w = .ok (.slice (some ⟨w.heap.size, 0, none⟩) n n) (w.alloc (.cells (Array.replicate n (Value.slice none 0 0)) 63)) := by
  obtain ⟨i0, hi, hz0, hz1, hz2⟩ := info_parts info_mfracs
  have hr := run_make (P := Try.prog) w 64 63 i0 (.slice none 0 0) Try.underlying64 hi hz0 .i64 .i64 n n (by omega) (by omega) (by rw [hz2]; omega) (by omega)
  simp only [Int.toNat_natCast, hz1] at hr
  rw [hr]
  have e : madeCells (Value.slice none 0 0).cells (n * 1) = Array.replicate n (Value.slice none 0 0) := by
    apply Array.ext'
    show (madeCells #[Value.slice none 0 0] (n * 1)).toList = _
    rw [toList_madeCells_one]; simp
  rw [e]

/- Contracts: bits.Mul of 1 and a few, slices.Repeat of one fraction. -/

set_option maxRecDepth 100000 in
theorem mul64_any (k : Nat) (hk : k = 1 ∨ k = 2 ∨ k = 3) (w : World) : Calls Try.prog 75 #[.int .u64 1, .int .u64 k] w fun e w' => e = .returned (.tuple #[.int .u64 0, .int .u64 k]) ∧ w = w' := by
  rcases hk with rfl | rfl | rfl
  all_goals
    go_enter Try.func75, Try.ntmps75
    go_wp2_with fail
    go_ret2
    exact ⟨rfl, rfl⟩

theorem mulU_any (k : Nat) (hk : k = 1 ∨ k = 2 ∨ k = 3) (w : World) : Calls Try.prog 72 #[.int .u64 1, .int .u64 k] w fun e w' => e = .returned (.tuple #[.int .u64 0, .int .u64 k]) ∧ w = w' := by
  go_enter Try.func72, Try.ntmps72
  go_wp2_with fail
  refine (mul64_any k hk w).mono ?_
  rintro e w' ⟨rfl, rfl⟩
  go_wp2_with fail
  go_ret2
  exact ⟨rfl, rfl⟩
section
variable {P : Program}
/-- copy, of elements of two cells. -/
theorem run_copy_row2 (w : World) (dT sT ty elem : TypeId) (g o dLen dCap : Nat) (a : Addr) (sLen sCap q : Nat) (cur : Array Value) (t : TypeId) (cs : List Value)
    (hu : P.underlying dT = some (.slice elem)) (hs : (P.info? elem).map (·.size) = some 2)
    (hg : w.heap[g]? = some (.cells cur t (0, 0))) (hq : q = Nat.min sLen dLen) (hn : cs.length = q * 2)
    (hsrc : ∀ j v, cs[j]? = some v → w.cell? (a.add j) = some v) (hfit : o + cs.length ≤ cur.size) (h1 : ∀ v ∈ cs, v.oneCell' = true) :
    (Builtin.copy_ #[dT, sT] ty #[.slice (some ⟨g, o, none⟩) dLen dCap, .slice (some a) sLen sCap]).run P w =
      .ok (goInt q) (w.setRow g (cur.toList.take o ++ cs ++ cur.toList.drop (o + cs.length)).toArray) := by
  have hl := run_loadCells_list (P := P) w a cs hsrc
  have hst := run_storeCells_at P g o t cs 0 cur w hg (by simpa using hfit) h1
  rw [hn] at hl
  cases hi0 : P.info? elem with
  | none => simp [hi0] at hs
  | some i =>
    have hi : i.size = 2 := by simpa [hi0] using hs
    simp [Builtin.copy_, run_underlying hu, Builtin.lenOf, Builtin.firstCells, sizeOf, typeInfo, hi0, hi, ← hq, hl, hst]
theorem wpList_copy2 {w : World} {ops : Array Oper} {rest : List Oper} {o : Oper} {a : Act} {Q : Exit → Act → World → Prop} (hgd : o.guard = none) (d s : Operand) (dT sT : TypeId)
    (ho : o.op = .call { callee := .builtin .copy, args := #[d, s], argTypes := #[dT, sT] }) (elem : TypeId) (hu : P.underlying dT = some (.slice elem)) (hsz : (P.info? elem).map (·.size) = some 2)
    (g off dLen dCap : Nat) (ad : Addr) (sLen sCap q : Nat) (hd : a.eval d = .slice (some ⟨g, off, none⟩) dLen dCap) (hs : a.eval s = .slice (some ad) sLen sCap)
    (cur : List Value) (t : TypeId) (hg : w.heap[g]? = some (.cells cur.toArray t (0, 0))) (cs : List Value) (hq : q = Nat.min sLen dLen) (hn : cs.length = q * 2)
    (hsrc : ∀ j v, cs[j]? = some v → w.cell? (ad.add j) = some v) (hfit : off + cs.length ≤ cur.length) (h1 : ∀ v ∈ cs, v.oneCell' = true) (B : Nat) (w0 : World) (hb : Below B w0 w) (hBg : B ≤ g)
    (h : ∀ w', Hid (w'.heap[g]? = some (.cells (splice cur off cs).toArray t (0, 0))) → Below B w0 w' → wpList P ops Q rest (a.put o.dst (goInt q)) w') : wpList P ops Q (o :: rest) a w := by
  refine wpList_plain hgd fun K hK => ?_
  have hrun := run_copy_row2 (P := P) w dT sT o.type elem g off dLen dCap ad sLen sCap q cur.toArray t cs hu hsz hg hq hn hsrc (by simpa using hfit) h1
  unfold Oper.wp
  simp [execOp, ho, resolve, invoke, builtin, hd, hs, hrun, Result.andThen]
  exact hK _ _ (h _ (show _ = _ by simpa [splice] using setRow_heap w g _ _ t _ hg) (below_setRow hb hBg _))
theorem step_copy2 {ops : Array Oper} {o : Oper} {a : Act} {w : World} {K : Act → World → Prop} {Q : Exit → Act → World → Prop} {E : Prop} (hgd : o.guard = none) (d s : Operand) (dT sT : TypeId)
    (ho : o.op = .call { callee := .builtin .copy, args := #[d, s], argTypes := #[dT, sT] }) (elem : TypeId) (hu : P.underlying dT = some (.slice elem)) (hsz : (P.info? elem).map (·.size) = some 2)
    (g off dLen dCap : Nat) (ad : Addr) (sLen sCap q : Nat) (hd : a.eval d = .slice (some ⟨g, off, none⟩) dLen dCap) (hs : a.eval s = .slice (some ad) sLen sCap)
    (cur : List Value) (t : TypeId) (hg : w.heap[g]? = some (.cells cur.toArray t (0, 0))) (cs : List Value) (hq : q = Nat.min sLen dLen) (hn : cs.length = q * 2)
    (hsrc : ∀ j v, cs[j]? = some v → w.cell? (ad.add j) = some v) (hfit : off + cs.length ≤ cur.length) (h1 : ∀ v ∈ cs, v.oneCell' = true) (B : Nat) (w0 : World) (hb : Below B w0 w) (hBg : B ≤ g)
    (h : ∀ w', Hid (w'.heap[g]? = some (.cells (splice cur off cs).toArray t (0, 0))) → Below B w0 w' → K (a.put o.dst (goInt q)) w') :
    if Region.wanted o (yielded ops a.tmps) = true then Oper.wp P o a w K Q else E := by
  have hw : Region.wanted o (yielded ops a.tmps) = true := by simp [Region.wanted, hgd]
  rw [if_pos hw]
  have hrun := run_copy_row2 (P := P) w dT sT o.type elem g off dLen dCap ad sLen sCap q cur.toArray t cs hu hsz hg hq hn hsrc (by simpa using hfit) h1
  unfold Oper.wp
  simp [execOp, ho, resolve, invoke, builtin, hd, hs, hrun, Result.andThen]
  exact h _ (show _ = _ by simpa [splice] using setRow_heap w g _ _ t _ hg) (below_setRow hb hBg _)
end
/-- The first k are 0, the others are not yet made. -/
def zeroTo (n k : Nat) : List (Int × Int) := List.replicate k (0, 1) ++ List.replicate (n - k) (0, 0)
theorem zeroTo_length {n k : Nat} (h : k ≤ n) : (zeroTo n k).length = n := by unfold zeroTo; simp; omega
theorem zeroTo_get {n k : Nat} (h : k < n) : (zeroTo n k)[k]? = some (0, 0) := by
  unfold zeroTo
  rw [List.getElem?_append_right (by simp), List.length_replicate, Nat.sub_self, List.getElem?_replicate, if_pos (by omega)]
theorem zeroTo_set {n k : Nat} (h : k < n) : (zeroTo n k).set k (0, 1) = zeroTo n (k + 1) := by
  unfold zeroTo
  rw [show n - k = (n - (k + 1)) + 1 by omega, List.replicate_succ, List.replicate_succ']
  simp
theorem zeroTo_all (n : Nat) : zeroTo n n = List.replicate n (0, 1) := by
  unfold zeroTo
  rw [Nat.sub_self]
  simp
theorem pcells_app (a b : List (Int × Int)) : pcells (a ++ b) = pcells a ++ pcells b := by simp [pcells]
theorem zero_splice {m k j : Nat} (h : k + j ≤ m) : splice (pcells (zeroTo m k)) (k * 2) (pcells (List.replicate j (0, 1))) = pcells (zeroTo m (k + j)) := by
  have e1 : zeroTo m k = List.replicate k (0, 1) ++ (List.replicate j (0, 0) ++ List.replicate (m - (k + j)) (0, 0)) := by
    unfold zeroTo
    rw [List.replicate_append_replicate, show m - k = j + (m - (k + j)) by omega]
  have e2 : zeroTo m (k + j) = List.replicate k (0, 1) ++ (List.replicate j (0, 1) ++ List.replicate (m - (k + j)) (0, 0)) := by
    unfold zeroTo
    rw [← List.replicate_append_replicate, List.append_assoc]
  rw [e1, e2, pcells_app, pcells_app, pcells_app, pcells_app]
  have l1 : (pcells (List.replicate k ((0 : Int), (1 : Int)))).length = k * 2 := by rw [pcells_length]; simp
  have l2 : (pcells (List.replicate j ((0 : Int), (1 : Int)))).length = j * 2 := by rw [pcells_length]; simp
  have l3 : (pcells (List.replicate j ((0 : Int), (0 : Int)))).length = j * 2 := by rw [pcells_length]; simp
  generalize pcells (List.replicate k ((0 : Int), (1 : Int))) = X at *
  generalize pcells (List.replicate j ((0 : Int), (1 : Int))) = Y at *
  generalize pcells (List.replicate j ((0 : Int), (0 : Int))) = Z at *
  generalize pcells (List.replicate (m - (k + j)) ((0 : Int), (0 : Int))) = R at *
  unfold splice
  rw [l2, ← l1, List.take_left]
  congr 2
  rw [List.drop_append, List.drop_append, List.drop_eq_nil_of_le (by omega), List.drop_eq_nil_of_le (by omega)]
  simp [l3]
theorem size_mfrac : (Try.prog.info? 77).map (·.size) = some 2 := by kernel_rfl

set_option maxRecDepth 100000 in
set_option maxHeartbeats 1600000 in
theorem repeatM_any (m gx : Nat) (hm : m = 1 ∨ m = 2 ∨ m = 3) (w : World) (hx : Blk w gx 77 #[.int .i64 0, .int .i64 1]) :
    Calls Try.prog 67 #[.slice (some ⟨gx, 0, none⟩) 1 1, .int .i64 m] w fun e w' => ∃ g, e = .returned (.slice (some ⟨g, 0, none⟩) m m) ∧ PrB w' g 77 (List.replicate m (0, 1)) ∧ w.heap.size ≤ g ∧ Below w.heap.size w w' := by
  have hm3 : 1 ≤ m ∧ m ≤ 3 := by omega
  have hmk := make_mfracs m (by omega)
  have hgx := hx.lt
  have HX := Lib.hid hx
  have HM := Lib.hid hm
  clear hx hm
  go_enter Try.func67, Try.ntmps67
  go_wp2_with fail
  refine (mulU_any m HM.out w).mono ?_
  rintro e w' ⟨rfl, rfl⟩
  have hB0 : Blk (w.alloc (.cells (prA (List.replicate m (0, 0))) 77)) w.heap.size 77 (pcells (zeroTo m 0)).toArray := Blk.new _ _ _ rfl
  have hsrc : ∀ j v, [Value.int .i64 0, Value.int .i64 1][j]? = some v → (w.alloc (.cells (prA (List.replicate m (0, 0))) 77)).cell? ((⟨gx, 0, none⟩ : Addr).add j) = some v := (HX.out.alloc (.cells (prA (List.replicate m (0, 0))) 77)).at_.some2
  have hb0 : Below w.heap.size w (w.alloc (.cells (prA (List.replicate m (0, 0))) 77)) := (Below.refl _ _).alloc (Nat.le_refl _) _
  have hfit : 0 + [Value.int .i64 0, Value.int .i64 1].length ≤ (pcells (zeroTo m 0)).length := by rw [pcells_length, zeroTo_length (by omega)]; simp; omega
  have H0 := Lib.hid (And.intro hB0 (And.intro hsrc (And.intro hb0 (And.intro hfit (show 1 = Nat.min 1 m from (Nat.min_eq_left hm3.1).symm)))))
  have hone : ∀ v ∈ [Value.int .i64 0, Value.int .i64 1], v.oneCell' = true := by simp [Value.oneCell']
  have HONE := Lib.hid hone
  clear hB0 hsrc hb0 hfit hone
  go_wp2_with (refine wpList_copy2 (o := ⟨some 33, _, _, _, _, _⟩) rfl (.tmp 31) (.tmp 32) _ _ rfl 77 Try.underlying63 size_mfrac w.heap.size 0 m m ⟨gx, 0, none⟩ 1 1 1 rfl rfl (pcells (zeroTo m 0)) 77 H0.out.1 [.int .i64 0, .int .i64 1] H0.out.2.2.2.2 rfl H0.out.2.1 H0.out.2.2.2.1 HONE.out w.heap.size w H0.out.2.2.1 (Nat.le_refl _) ?_)
  intro w1 hs1 hb1
  have hB1 : PrB w1 w.heap.size 77 (zeroTo m 1) := by
    have h := hs1.out
    have e := zero_splice (m := m) (k := 0) (j := 1) (by omega)
    rw [show pcells (List.replicate 1 ((0 : Int), (1 : Int))) = [Value.int .i64 0, Value.int .i64 1] from rfl] at e
    rw [show (0 : Nat) * 2 = 0 from rfl] at e
    rw [e] at h
    exact h
  have H1 := Lib.hid (And.intro hB1 hb1)
  clear hs1 hB1 hb1
  go_wp2_with fail
  go_loopw [8] (fun nv wr => ∃ k : Nat, 1 ≤ k ∧ k ≤ m ∧ nv = .int .i64 k ∧ PrB wr w.heap.size 77 (zeroTo m k) ∧ Below w.heap.size w wr) (fun nv _ => m - (intOf nv).toNat)
  case atStart => exact ⟨1, by omega, hm3.1, rfl, H1.out.1, H1.out.2⟩
  case round =>
    obtain ⟨k, hk1, hk, rfl, hB, hbl⟩ := hrel
    have HR := Lib.hid (And.intro hB hbl)
    clear hB hbl
    by_cases hlt : k < m
    · have l1 : (k : Int) < (m : Int) := by omega
      have hne : ¬ m = k := by omega
      have l2 : (0 : Int) ≤ (k : Int) := by omega
      have l3 : (k : Int) ≤ (m : Int) := by omega
      obtain ⟨j, hj⟩ : ∃ j, j = min k (m - k) := ⟨_, rfl⟩
      have hj1 : k + j ≤ m ∧ 1 ≤ j ∧ j ≤ 3 := by omega
      have hlen : (pcells (List.replicate j ((0 : Int), (1 : Int)))).length = j * 2 := by rw [pcells_length]; simp
      have hfit : k * 2 + (pcells (List.replicate j ((0 : Int), (1 : Int)))).length ≤ (pcells (zeroTo m k)).length := by rw [hlen, pcells_length, zeroTo_length hk]; omega
      have hone : ∀ v ∈ pcells (List.replicate j ((0 : Int), (1 : Int))), v.oneCell' = true := pcells_one _
      have hsrc : ∀ (i : Nat) (v : Value), (pcells (List.replicate j ((0 : Int), (1 : Int))))[i]? = some v → wr.drew.cell? ((⟨w.heap.size, 0, none⟩ : Addr).add i) = some v := by
        intro i v hv
        refine (Blk.at_ HR.out.1).some2 i v ?_
        rw [← hv]
        have hi : i < j * 2 := by
          have := (List.getElem?_eq_some_iff.1 hv).1; rwa [hlen] at this
        have e : pcells (zeroTo m k) = pcells (List.replicate j (0, 1)) ++ pcells (List.replicate (k - j) (0, 1) ++ List.replicate (m - k) (0, 0)) := by
          unfold zeroTo
          rw [← pcells_app, ← List.append_assoc, List.replicate_append_replicate, show j + (k - j) = k by omega]
        show (prA (zeroTo m k)).toList[i]? = _
        unfold prA
        rw [e, List.getElem?_append_left (by rw [hlen]; exact hi)]
      have ew : IntKind.i64.wrap ((k : Int) + (j : Int)) = (k : Int) + (j : Int) := IntWalk.i64_in _ (by omega)
      have HL := Lib.hid (And.intro hlen (And.intro hfit (And.intro hone (And.intro hsrc hj))))
      clear hlen hfit hone hsrc hj
      have HBL2 : Hid (Blk wr.drew w.heap.size 77 (pcells (zeroTo m k)).toArray ∧ Below w.heap.size w wr.drew) := Lib.hid ⟨HR.out.1, HR.out.2.drew⟩
      go_wp2_with fail
      go_region_law ((refine step_copy2 (o := ⟨some 45, _, _, _, _, _⟩) (by rfl) (.tmp 41) (.tmp 44) _ _ (by rfl) 77 Try.underlying63 size_mfrac w.heap.size (k * 2) (m - k) (m - k) ⟨w.heap.size, 0, none⟩ k m j (by simp [Act.eval, Act.put]) (by simp [Act.eval, Act.put]) (pcells (zeroTo m k)) 77 HBL2.out.1 (pcells (List.replicate j (0, 1))) HL.out.2.2.2.2 HL.out.1 HL.out.2.2.2.1 HL.out.2.1 HL.out.2.2.1 w.heap.size w HBL2.out.2 (Nat.le_refl _) ?_; intro w2 hs2 hb2))
      all_goals
        have hB2 : PrB w2 w.heap.size 77 (zeroTo m (k + j)) := by
          have h := hs2.out
          rw [zero_splice hj1.1] at h
          exact h
        have H2 := Lib.hid (And.intro hB2 hb2)
        clear hs2 hB2 hb2
        go_roundw
        case rel =>
          (repeat apply Exists.intro)
          refine ⟨⟨k + j, by omega, hj1.1, ?e, H2.out.1, H2.out.2⟩, rfl⟩
          go_num
        case measure =>
          show m - ((k : Int) + (j : Int)).toNat < m - ((k : Int)).toNat
          omega
    · obtain rfl : k = m := by omega
      go_wp2_with fail
      go_ret
      exact ⟨w.heap.size, rfl, by rw [← zeroTo_all]; exact HR.out.1, Nat.le_refl _, HR.out.2⟩

/- Equality of lists, as a walk decides it. No program. -/

def eqB {α : Type} [DecidableEq α] (a b : List α) : Bool := decide (a = b)
theorem eqB_len {α : Type} [DecidableEq α] {a b : List α} (h : a.length ≠ b.length) : eqB a b = false := by
  unfold eqB; exact decide_eq_false fun e => h (by rw [e])
theorem eqB_at {α : Type} [DecidableEq α] {a b : List α} {k : Nat} {x y : α} (hx : a[k]? = some x) (hy : b[k]? = some y) (h : x ≠ y) : eqB a b = false := by
  unfold eqB; exact decide_eq_false fun e => h (by rw [e, hy] at hx; injection hx with hx; exact hx.symm)
theorem eqB_all {α : Type} [DecidableEq α] {a b : List α} {n : Nat} (ha : a.length = n) (hb : b.length = n) (h : a.take n = b.take n) : eqB a b = true := by
  unfold eqB; apply decide_eq_true
  rwa [List.take_of_length_le (by omega), List.take_of_length_le (by omega)] at h
theorem take_eq_succ {α : Type} {a b : List α} {k : Nat} {x : α} (hx : a[k]? = some x) (hy : b[k]? = some x) (h : a.take k = b.take k) : a.take (k + 1) = b.take (k + 1) := by
  rw [List.take_add_one, List.take_add_one, hx, hy, h]

/- Contracts: slices.Equal of fractions, of both types. -/

/-- '==' and '!=' of two fractions. -/
def neB (p q : Rat) : Bool := decide (p ≠ q)
def eqQ (p q : Rat) : Bool := decide (p = q)
theorem rat_eq_iff (p q : Rat) : p = q ↔ p.num = q.num ∧ (p.den : Int) = (q.den : Int) :=
  ⟨by rintro rfl; exact ⟨rfl, rfl⟩, fun h => Rat.ext h.1 (by omega)⟩
theorem run_neq_frac (p q : Rat) (w : World) : (binOp .neq 37 (.agg #[.int .i64 p.num, .int .i64 (p.den : Int)]) (.agg #[.int .i64 q.num, .int .i64 (q.den : Int)])).run Try.prog w = .ok (.bool (neB p q)) w := by
  unfold neB
  have e0 : decide (p ≠ q) = !(decide (p.num = q.num) && decide ((p.den : Int) = (q.den : Int))) := by
    rw [Bool.eq_iff_iff]; simp only [ne_eq, rat_eq_iff, decide_eq_true_eq, Bool.not_eq_true', Bool.and_eq_false_iff, decide_eq_false_iff_not]
    exact Decidable.not_and_iff_not_or_not
  rw [e0]
  by_cases h1 : p.num = q.num
  · by_cases h2 : (p.den : Int) = (q.den : Int)
    · simp only [h1, h2]; go_simp
    · simp only [h1]; go_simp
  · go_simp

set_option maxHeartbeats 800000 in
theorem equalF_any (A A' : Option Addr) (n n' cap cap' : Nat) (ps qs : List Rat) (w : World) (hl : ps.length = n) (hl' : qs.length = n') (hm : n ≤ 1000000) (h : Fracs w A ps) (h' : Fracs w A' qs) :
    Calls Try.prog 18 #[.slice A n cap, .slice A' n' cap'] w fun e w' => e = .returned (.bool (eqB ps qs)) ∧ ∃ m, w' = w.drewN m := by
  by_cases hnn : n = n'
  · subst hnn
    by_cases h0 : n = 0
    · subst h0
      obtain rfl := List.eq_nil_of_length_eq_zero hl
      obtain rfl := List.eq_nil_of_length_eq_zero hl'
      go_enter Try.func18, Try.ntmps18
      go_wp2
      refine wp_loop_rounds 1 ?_
      rw [rounds_succ]
      go_wp2
      go_ret
      exact ⟨rfl, 0, rfl⟩
    · obtain ⟨ad, rfl, _, hc⟩ := h.some_ (by omega)
      obtain ⟨ad', rfl, _, hc'⟩ := h'.some_ (by omega)
      have H := Lib.hid (And.intro hl (And.intro hl' (And.intro hc hc')))
      clear hl hl' hc hc' h h'
      go_enter Try.func18, Try.ntmps18
      go_wp2
      go_loopw [13] (fun iv wr => ∃ k : Nat, k ≤ n ∧ iv = .int .i64 k ∧ ps.take k = qs.take k ∧ ∃ m, wr = w.drewN m) (fun iv _ => n - (intOf iv).toNat)
      case atStart => exact ⟨0, Nat.zero_le _, rfl, rfl, 0, rfl⟩
      case round =>
        obtain ⟨k, hk, rfl, ht, m, rfl⟩ := hrel
        have HT := Lib.hid ht
        clear ht
        obtain ⟨hl, hl', hc, hc'⟩ := H.out
        by_cases hlt : k < n
        · obtain ⟨p, hp⟩ : ∃ p, ps[k]? = some p := ⟨_, List.getElem?_eq_getElem (by omega)⟩
          obtain ⟨q, hq⟩ : ∃ q, qs[k]? = some q := ⟨_, List.getElem?_eq_getElem (by omega)⟩
          obtain ⟨c1, c2⟩ := hc k p hp
          obtain ⟨c3, c4⟩ := hc' k q hq
          have HP := Lib.hid (And.intro hp hq)
          clear hp hq hc hc' hl hl'
          by_cases he : p = q
          · subst he
            go_wp2
            go_region
            all_goals go_wp2
            go_roundw
            case rel => exact ⟨k + 1, by omega, by go_num, take_eq_succ HP.out.1 HP.out.2 HT.out, m + 1, rfl⟩
            case measure => simp [intOf]; omega
          · have HNE := Lib.hid he
            have hne : ∀ w, (binOp .neq 37 (.agg #[.int .i64 p.num, .int .i64 (p.den : Int)]) (.agg #[.int .i64 q.num, .int .i64 (q.den : Int)])).run Try.prog w = .ok (.bool true) w := fun w => by
              rw [run_neq_frac]; unfold neB; simp [he]
            clear he
            go_wp2
            go_region
            all_goals go_wp2
            go_ret
            exact ⟨ret_bool (eqB_at HP.out.1 HP.out.2 HNE.out).symm, m + 1, rfl⟩
        · obtain rfl : k = n := by omega
          have HF : Hid (eqB ps qs = true) := Lib.hid (eqB_all hl hl' HT.out)
          clear hl hl' hc hc'
          go_wp2
          go_ret
          exact ⟨ret_bool HF.out.symm, m, rfl⟩
  · have HF : Hid (eqB ps qs = false) := Lib.hid (eqB_len (by omega))
    have hne : ((n : Int) != (n' : Int)) = true := by rw [bne_iff_ne]; omega
    clear hl hl' h h'
    go_enter Try.func18, Try.ntmps18
    go_wp2
    go_ret
    exact ⟨ret_bool HF.out.symm, 0, rfl⟩
theorem run_neq_mfrac (p q : Rat) (w : World) : (binOp .neq 77 (.agg #[.int .i64 p.num, .int .i64 (p.den : Int)]) (.agg #[.int .i64 q.num, .int .i64 (q.den : Int)])).run Try.prog w = .ok (.bool (neB p q)) w := by
  unfold neB
  have e0 : decide (p ≠ q) = !(decide (p.num = q.num) && decide ((p.den : Int) = (q.den : Int))) := by
    rw [Bool.eq_iff_iff]; simp only [ne_eq, rat_eq_iff, decide_eq_true_eq, Bool.not_eq_true', Bool.and_eq_false_iff, decide_eq_false_iff_not]
    exact Decidable.not_and_iff_not_or_not
  rw [e0]
  by_cases h1 : p.num = q.num
  · by_cases h2 : (p.den : Int) = (q.den : Int)
    · simp only [h1, h2]; go_simp
    · simp only [h1]; go_simp
  · go_simp

set_option maxHeartbeats 800000 in
theorem equalM_any (A A' : Option Addr) (n n' cap cap' : Nat) (ps qs : List Rat) (w : World) (hl : ps.length = n) (hl' : qs.length = n') (hm : n ≤ 1000000) (h : Fracs w A ps) (h' : Fracs w A' qs) :
    Calls Try.prog 68 #[.slice A n cap, .slice A' n' cap'] w fun e w' => e = .returned (.bool (eqB ps qs)) ∧ ∃ m, w' = w.drewN m := by
  by_cases hnn : n = n'
  · subst hnn
    by_cases h0 : n = 0
    · subst h0
      obtain rfl := List.eq_nil_of_length_eq_zero hl
      obtain rfl := List.eq_nil_of_length_eq_zero hl'
      go_enter Try.func68, Try.ntmps68
      go_wp2
      refine wp_loop_rounds 1 ?_
      rw [rounds_succ]
      go_wp2
      go_ret
      exact ⟨rfl, 0, rfl⟩
    · obtain ⟨ad, rfl, _, hc⟩ := h.some_ (by omega)
      obtain ⟨ad', rfl, _, hc'⟩ := h'.some_ (by omega)
      have H := Lib.hid (And.intro hl (And.intro hl' (And.intro hc hc')))
      clear hl hl' hc hc' h h'
      go_enter Try.func68, Try.ntmps68
      go_wp2
      go_loopw [13] (fun iv wr => ∃ k : Nat, k ≤ n ∧ iv = .int .i64 k ∧ ps.take k = qs.take k ∧ ∃ m, wr = w.drewN m) (fun iv _ => n - (intOf iv).toNat)
      case atStart => exact ⟨0, Nat.zero_le _, rfl, rfl, 0, rfl⟩
      case round =>
        obtain ⟨k, hk, rfl, ht, m, rfl⟩ := hrel
        have HT := Lib.hid ht
        clear ht
        obtain ⟨hl, hl', hc, hc'⟩ := H.out
        by_cases hlt : k < n
        · obtain ⟨p, hp⟩ : ∃ p, ps[k]? = some p := ⟨_, List.getElem?_eq_getElem (by omega)⟩
          obtain ⟨q, hq⟩ : ∃ q, qs[k]? = some q := ⟨_, List.getElem?_eq_getElem (by omega)⟩
          obtain ⟨c1, c2⟩ := hc k p hp
          obtain ⟨c3, c4⟩ := hc' k q hq
          have HP := Lib.hid (And.intro hp hq)
          clear hp hq hc hc' hl hl'
          by_cases he : p = q
          · subst he
            go_wp2
            go_region
            all_goals go_wp2
            go_roundw
            case rel => exact ⟨k + 1, by omega, by go_num, take_eq_succ HP.out.1 HP.out.2 HT.out, m + 1, rfl⟩
            case measure => simp [intOf]; omega
          · have HNE := Lib.hid he
            have hne : ∀ w, (binOp .neq 77 (.agg #[.int .i64 p.num, .int .i64 (p.den : Int)]) (.agg #[.int .i64 q.num, .int .i64 (q.den : Int)])).run Try.prog w = .ok (.bool true) w := fun w => by
              rw [run_neq_mfrac]; unfold neB; simp [he]
            clear he
            go_wp2
            go_region
            all_goals go_wp2
            go_ret
            exact ⟨ret_bool (eqB_at HP.out.1 HP.out.2 HNE.out).symm, m + 1, rfl⟩
        · obtain rfl : k = n := by omega
          have HF : Hid (eqB ps qs = true) := Lib.hid (eqB_all hl hl' HT.out)
          clear hl hl' hc hc'
          go_wp2
          go_ret
          exact ⟨ret_bool HF.out.symm, m, rfl⟩
  · have HF : Hid (eqB ps qs = false) := Lib.hid (eqB_len (by omega))
    have hne : ((n : Int) != (n' : Int)) = true := by rw [bne_iff_ne]; omega
    clear hl hl' h h'
    go_enter Try.func68, Try.ntmps68
    go_wp2
    go_ret
    exact ⟨ret_bool HF.out.symm, 0, rfl⟩

/- Contract: balanced of package market. -/

/-- The slice of slices of fractions at A reads as S. -/
def FMat (w : World) (A : Option Addr) (S : List (List Rat)) : Prop :=
  ∀ (j : Nat) (r : List Rat), S[j]? = some r → ∃ ad A' c, A = some ad ∧ w.cell? (ad.add j) = some (.slice A' r.length c) ∧ Fracs w A' r
theorem FMat.below {w w' : World} {A : Option Addr} {S : List (List Rat)} (h : FMat w A S) (hb : Below w.heap.size w w') : FMat w' A S := fun j r hj => by
  obtain ⟨ad, A', c, h1, h2, h3⟩ := h j r hj
  exact ⟨ad, A', c, h1, (hb.cell (lt_of_cell h2)).trans h2, h3.below hb⟩
theorem FMat.some_ {w : World} {A : Option Addr} {S : List (List Rat)} (h : FMat w A S) (hn : 0 < S.length) : ∃ ad, A = some ad ∧ ad.block < w.heap.size ∧ ∀ (j : Nat) (r : List Rat), S[j]? = some r → ∃ A' c, w.cell? (ad.add j) = some (.slice A' r.length c) ∧ Fracs w A' r := by
  obtain ⟨ad, A', c, h1, h2, _⟩ := h 0 _ (List.getElem?_eq_getElem hn)
  refine ⟨ad, h1, by have := lt_of_cell h2; rwa [add_block] at this, fun j r hj => ?_⟩
  obtain ⟨ad', A', c, h1', h2, h3⟩ := h j r hj
  rw [h1] at h1'
  injection h1' with h1'
  subst h1'
  exact ⟨A', c, h2, h3⟩
def balV (P : Option Addr) (k cp : Nat) (Sp : Option Addr) (n cs : Nat) : Value := .agg #[.slice P k cp, .slice Sp n cs]
theorem keep2 {w1 w' w'' : World} {p1 p2 : Addr} {v1 v2 : Value} (h : w'.cell? p1 = some v1 ∧ w'.cell? p2 = some v2 ∧ Below w1.heap.size w1 w') (hb : Below w'.heap.size w' w'') :
    w''.cell? p1 = some v1 ∧ w''.cell? p2 = some v2 ∧ Below w1.heap.size w1 w'' := by
  obtain ⟨h1, h2, h5⟩ := h
  exact ⟨(hb.cell (lt_of_cell h1)).trans h1, (hb.cell (lt_of_cell h2)).trans h2, h5.trans (hb.mono h5.size)⟩
/-- What balanced is given. -/
structure BalIn (w : World) (A : Option Addr) (n : Nat) (U P : Option Addr) (k : Nat) (Sp : Option Addr) (B : List Int) (V : List (List Int)) (p : List Rat) (S : List (List Rat)) : Prop where
  mkt : MktAt w A n U n B V
  hn : 1 ≤ n ∧ n ≤ 3
  hk : k = 1 ∨ k = 2 ∨ k = 3
  hg : goodsN V = k
  rows : ∀ r ∈ V, rowOk k r = true
  buds : ∀ b ∈ B, 1 ≤ b ∧ b ≤ 20
  hp : p.length = k
  pok : ∀ q ∈ p, PrOk q
  hP : Fracs w P p
  hS : S.length = n
  srow : ∀ r ∈ S, r.length = k
  sok : ∀ r ∈ S, ∀ q ∈ r, SpB q
  hSp : FMat w Sp S
theorem BalIn.below {w w' : World} {A : Option Addr} {n : Nat} {U P : Option Addr} {k : Nat} {Sp : Option Addr} {B : List Int} {V : List (List Int)} {p : List Rat} {S : List (List Rat)} (h : BalIn w A n U P k Sp B V p S) (hb : Below w.heap.size w w') : BalIn w' A n U P k Sp B V p S :=
  { h with mkt := h.mkt.below hb, hP := h.hP.below hb, hSp := h.hSp.below hb }
set_option maxRecDepth 100000 in
set_option maxHeartbeats 4000000 in
theorem mbalanced_any (A : Option Addr) (n c : Nat) (U : Option Addr) (d : Nat) (P : Option Addr) (k cp : Nat) (Sp : Option Addr) (cs : Nat) (B : List Int) (V : List (List Int)) (p : List Rat) (S : List (List Rat)) (w : World) (h : BalIn w A n U P k Sp B V p S) :
    Calls Try.prog 56 #[mktV A n c U n d, balV P k cp Sp n cs] w fun e w' => e = .returned (.bool (balB B V p S)) ∧ Below w.heap.size w w' := by
  have hn := h.hn
  have hk := h.hk
  obtain ⟨aS, rfl, _, hcS⟩ := h.hSp.some_ (by rw [h.hS]; omega)
  obtain ⟨aP, hPe, _, hcP⟩ := h.hP.some_ (by rw [h.hp]; omega)
  obtain ⟨aB, hBe, _, hcB⟩ := h.mkt.budgets.some_ (by rw [h.mkt.hB]; omega)
  have hk3 : 1 ≤ k ∧ k ≤ 3 := by omega
  obtain ⟨w2, hw2⟩ : ∃ w2, w2 = (w.alloc (.cells #[.slice A n c, .slice U n d] 30)).alloc (.cells #[.slice P k cp, .slice (some aS) n cs] 66) := ⟨_, rfl⟩
  have hb2 : Below w.heap.size w w2 := by rw [hw2]; exact ((Below.refl _ _).alloc (Nat.le_refl _) _).alloc (by simp) _
  have hM2 : Blk w2 w.heap.size 30 #[.slice A n c, .slice U n d] := by rw [hw2]; exact (Blk.new _ _ _ rfl).alloc _
  have hN2 : Blk w2 (w.heap.size + 1) 66 #[.slice P k cp, .slice (some aS) n cs] := by rw [hw2]; exact Blk.new _ _ _ (by simp)
  have hsz2 : w2.heap.size = w.heap.size + 2 := by rw [hw2]; simp
  have h2 := h.below hb2
  have hsok := spd_ok h.sok
  obtain ⟨x0, x1, _, _⟩ := hM2.at2
  have H := Lib.hid (And.intro h2 (And.intro hb2 (And.intro hM2 (And.intro hN2 (And.intro hcS (And.intro hcP (And.intro hcB hsok)))))))
  subst hPe
  subst hBe
  clear h h2 hb2 hM2 hN2 hcS hcP hcB hsok
  unfold mktV balV
  go_enter Try.func56, Try.ntmps56
  go_wp2_with fail
  rw [← hw2]
  have hS0 : w2.cell? ⟨w.heap.size, 0, none⟩ = some (.slice (some aB) n c) ∧ w2.cell? ⟨w.heap.size, 1, none⟩ = some (.slice U n d) ∧ Below w2.heap.size w2 w2 := ⟨x0, x1, Below.refl _ _⟩
  clear hw2
  have HGO : Hid (∀ w', Below w2.heap.size w2 w' → Calls Try.prog 53 #[.agg #[.slice (some aB) n c, .slice U n d]] w' fun e w'' => e = .returned (.int .i64 k) ∧ Below w'.heap.size w' w'') := Lib.hid fun w' hb => by
    have := mgoods_any (some aB) n c U n d B V w' (H.out.1.mkt.below hb) (by omega)
    rw [H.out.1.hg] at this
    exact this
  have HWH : Hid (∀ w', Calls Try.prog 47 #[.int .i64 0] w' fun e w'' => e = .returned (.agg #[.int .i64 0, .int .i64 1]) ∧ Below w'.heap.size w' w'') := Lib.hid fun w' => mwhole_any 0 w'
  have HRP : Hid (∀ (w' : World) (gx : Nat), Blk w' gx 77 #[.int .i64 0, .int .i64 1] → Calls Try.prog 67 #[.slice (some ⟨gx, 0, none⟩) 1 1, .int .i64 k] w' fun e w'' => ∃ g, e = .returned (.slice (some ⟨g, 0, none⟩) k k) ∧ PrB w'' g 77 (List.replicate k (0, 1)) ∧ w'.heap.size ≤ g ∧ Below w'.heap.size w' w'') := Lib.hid fun w' gx hx => repeatM_any k gx hk w' hx
  clear hk
  go_region_held3 (fun w' => w'.cell? ⟨w.heap.size, 0, none⟩ = some (.slice (some aB) n c) ∧ w'.cell? ⟨w.heap.size, 1, none⟩ = some (.slice U n d) ∧ Below w2.heap.size w2 w')
    (first | assumption | exact ⟨hS0.1, hS0.2.1, hS0.2.2.drew⟩ | exact keep2 (by assumption) (by assumption) | exact keep2 (by assumption) ((Below.refl _ _).alloc (Nat.le_refl _) _))
    (first
      | (go_at_call 47; refine (HWH.out _).mono ?_; rintro e wA ⟨rfl, hbA⟩)
      | (go_at_call 53; refine (HGO.out _ (by first | exact hS0.2.2.drew | (have := ‹_ ∧ _ ∧ Below w2.heap.size w2 _›; exact this.2.2))).mono ?_; rintro e wB ⟨rfl, hbB⟩)
      | (go_at_call 67; refine (HRP.out _ _ (by first | exact Blk.new _ _ _ rfl | exact (Blk.new _ _ _ rfl).below hbB (by simp))).mono ?_; rintro e wC ⟨gs, rfl, hBC, hgC, hbC⟩))
  all_goals
    have hHH := ‹wC.cell? _ = some _ ∧ wC.cell? _ = some _ ∧ Below w2.heap.size w2 wC›
    have hbC2 := hHH.2.2
    have hgs : w2.heap.size ≤ gs := by
      have h1 := hbA.size
      have h2 := hbB.size
      simp at h1 h2 hgC
      omega
    have hBC' : PrB wC gs 77 ((colTo S k 0 0).map pr) := by
      rw [colTo_zero, List.map_replicate]; exact hBC
    have H1 := Lib.hid (And.intro hBC' hbC2)
    have hN3 := H.out.2.2.2.1.below hbC2 (by omega)
    obtain ⟨y0, y1, _, _⟩ := hN3.at2
    clear hbA hbB hbC hgC hBC hBC' hHH hbC2 hN3
    go_wp2_with fail
    go_loopw [19] (fun iv wr => ∃ i : Nat, i ≤ n ∧ iv = .int .i64 i ∧ (∀ j, j < i → lineOk B V p S j = true) ∧ PrB wr gs 77 ((colTo S k i 0).map pr) ∧ Below w2.heap.size w2 wr) (fun iv _ => n - (intOf iv).toNat)
    case atStart => exact ⟨0, Nat.zero_le _, rfl, fun j hj => by omega, H1.out.1, H1.out.2⟩
    case round =>
      obtain ⟨i, hi, rfl, hln, hB, hbl⟩ := hrel
      obtain ⟨wo, rfl⟩ : ∃ wo : World, wo = wr := ⟨_, rfl⟩
      have hgl := hB.lt
      have hN3 := H.out.2.2.2.1.below hbl (by omega)
      have hM3 := H.out.2.2.1.below hbl (by omega)
      obtain ⟨y0, y1, _, _⟩ := hN3.at2
      obtain ⟨x0, x1, _, _⟩ := hM3.at2
      have HR := Lib.hid (And.intro hB (And.intro hbl (And.intro hln (H.out.2.1.trans (hbl.mono (by omega))))))
      have hws : w2.heap.size ≤ wo.heap.size := hbl.size
      clear hB hbl hln hN3 hM3
      by_cases hlt : i < n
      · obtain ⟨R, cr, c0, hR⟩ := H.out.2.2.2.2.1 i _ (rowQ_some (by rw [H.out.1.hS]; exact hlt))
        have hrl : (rowQ S i).length = k := H.out.1.srow _ (List.mem_of_getElem? (rowQ_some (by rw [H.out.1.hS]; exact hlt)))
        rw [hrl] at c0
        have c0' := (HR.out.2.2.2.cell (lt_of_cell c0)).trans c0
        have hR' : Fracs wo R (rowQ S i) := At.keep hR fun q v hq => (HR.out.2.2.2.cell (lt_of_cell hq)).trans hq
        obtain ⟨ar, hRe, _, hcR⟩ := hR.some_ (by rw [hrl]; omega)
        subst hRe
        have HRW := Lib.hid (And.intro hR' (And.intro hrl hcR))
        clear hR hR' hrl c0 hcR
        go_wp2_with fail
        refine (mwhole_any 0 _).mono ?_
        rintro e wD ⟨rfl, hbD⟩
        rw [fr_int]
        have hBD : PrB (wD.alloc (.cells #[.int .i64 0, .int .i64 1] 77)) gs 77 ((colTo S k i 0).map pr) := Blk.alloc (HR.out.1.below hbD hgl) _
        have hbD2 := (HR.out.2.1.trans (hbD.mono hws)).alloc (B := w2.heap.size) (Nat.le_trans hws hbD.size) (.cells #[.int .i64 0, .int .i64 1] 77)
        have hbl2 : Below wo.heap.size wo (wD.alloc (.cells #[.int .i64 0, .int .i64 1] 77)) := hbD.alloc hbD.size _
        have hwD : wo.heap.size ≤ wD.heap.size := hbD.size
        have hS0 : Blk (wD.alloc (.cells #[.int .i64 0, .int .i64 1] 77)) wD.heap.size 77 #[.int .i64 0, .int .i64 1] := Blk.new _ _ _ rfl
        have HD := Lib.hid (And.intro hBD (And.intro hbl2 (And.intro hS0 (HRW.out.1.below hbl2))))
        clear hBD hbD2 hbl2 hS0 hbD
        go_wp2_with fail
        go_loopw [27] (fun gv wr => ∃ g : Nat, g ≤ k ∧ gv = .int .i64 g ∧ (∀ h, h < g → cellOk V p S i h = true) ∧ Blk wr wD.heap.size 77 #[.int .i64 (sumF (spd S i) g).num, .int .i64 ((sumF (spd S i) g).den : Int)] ∧ PrB wr gs 77 ((colTo S k i g).map pr) ∧ Kept wo.heap.size [gs] wo wr) (fun gv _ => k - (intOf gv).toNat)
        case atStart => exact ⟨0, Nat.zero_le _, rfl, fun h hh => by omega, HD.out.2.2.1, HD.out.1, Kept.of_below HD.out.2.1 _⟩
        case round =>
          obtain ⟨g, hg, rfl, hce, hSm, hBg, hkp⟩ := hrel
          have hml := hSm.lt
          have hgl2 := hBg.lt
          have hbq2 : Below w2.heap.size w2 wr := HR.out.2.1.trans (hkp.mono (B' := w2.heap.size) (S' := []) hws (fun y hy => by simp at hy; omega)).below
          have hbqw : Below w.heap.size w wr := HR.out.2.2.2.trans (hkp.mono (B' := w.heap.size) (S' := []) (by omega) (fun y hy => by simp at hy; omega)).below
          have hwq : wD.heap.size < wr.heap.size := hml
          have hN4 := H.out.2.2.2.1.below hbq2 (by omega)
          have hM4 := H.out.2.2.1.below hbq2 (by omega)
          have HQ := Lib.hid (And.intro hce (And.intro hSm (And.intro hBg (And.intro hkp (And.intro hN4 (And.intro hM4 (And.intro hbq2 hbqw)))))))
          clear hce hSm hBg hkp hN4 hM4 hbq2 hbqw
          by_cases hlg : g < k
          · obtain ⟨q, hq⟩ : ∃ q, (rowQ S i)[g]? = some q := ⟨_, List.getElem?_eq_getElem (by rw [HRW.out.2.1]; exact hlg)⟩
            have hsp : spd S i g = q := by unfold spd; rw [List.getD_eq_getElem?_getD, hq]; rfl
            obtain ⟨p1, p2⟩ := HRW.out.2.2 g q hq
            have e1 := (HQ.out.2.2.2.2.2.2.2.cell (lt_of_cell p1)).trans p1
            have e2 := (HQ.out.2.2.2.2.2.2.2.cell (lt_of_cell p2)).trans p2
            have hqs : SpB q := by rw [← hsp]; exact H.out.2.2.2.2.2.2.2 i g
            have hqd := den_pos q
            have hq1 := hqs.1
            have hq2 := hqs.2.1
            have hq3 := hqs.2.2
            have HLS := Lib.hid fun w' => mless_raw q 0 w' (by simp; omega) (by simp; omega) (by simp) (by simp) (by simp; omega) (by omega) (by simp) (by simp)
            have HSP := Lib.hid (And.intro hsp hqs)
            have hlv1 := lv_add (j := g) (by omega) (sumF_lv (f := spd S i) g (by omega) fun y _ => H.out.2.2.2.2.2.2.2 i y) hqs
            have hlv2 := lv_add (j := i) (by omega) (sumF_lv (f := fun j => spd S j g) i (by omega) fun y _ => H.out.2.2.2.2.2.2.2 y g) hqs
            have HP1 := Lib.hid fun w' => mplus_raw (sumF (spd S i) g) q w' hlv1.2.1.1 hlv1.2.1.2 hlv1.2.2.1.1 hlv1.2.2.1.2 hlv1.2.2.2.1 hlv1.2.2.2.2.1 hlv1.2.2.2.2.2
            have HP2 := Lib.hid fun w' => mplus_raw (sumF (fun j => spd S j g) i) q w' hlv2.2.1.1 hlv2.2.1.2 hlv2.2.2.1.1 hlv2.2.2.1.2 hlv2.2.2.2.1 hlv2.2.2.2.2.1 hlv2.2.2.2.2.2
            have hsn1 : sumF (spd S i) (g + 1) = sumF (spd S i) g + q := by rw [sumF, hsp]
            have hsn2 : sumF (fun j => spd S j g) (i + 1) = sumF (fun j => spd S j g) i + q := by rw [sumF, hsp]
            rw [← hsn1] at HP1
            rw [← hsn2] at HP2
            obtain ⟨s1, hs1⟩ : ∃ s, s = sumF (spd S i) g := ⟨_, rfl⟩
            obtain ⟨s2, hs2⟩ : ∃ s, s = sumF (spd S i) (g + 1) := ⟨_, rfl⟩
            obtain ⟨t1, ht1⟩ : ∃ s, s = sumF (fun j => spd S j g) i := ⟨_, rfl⟩
            obtain ⟨t2, ht2⟩ : ∃ s, s = sumF (fun j => spd S j g) (i + 1) := ⟨_, rfl⟩
            have hget : ((colTo S k i g).map pr)[g]? = some (t1.num, (t1.den : Int)) := by rw [List.getElem?_map, colTo_get hlg, ← ht1]; rfl
            have hset : ((colTo S k i g).map pr).set g (t2.num, (t2.den : Int)) = (colTo S k i (g + 1)).map pr := by
              rw [← colTo_set hlg, ← ht2, List.map_set]; rfl
            rw [← hs1] at HP1 HQ
            rw [← hs2] at HP1
            rw [← ht1, ← ht2] at HP2
            have HSS := Lib.hid (And.intro hs2 (And.intro hget hset))
            have HWH2 := Lib.hid fun w' => mwhole_any 0 w'
            unfold fr at HLS HP1 HP2 HWH2
            rw [show (0 : Rat).num = 0 from rfl, show ((0 : Rat).den : Int) = 1 from rfl] at HLS
            rw [Rat.num_intCast, Rat.den_intCast] at HWH2
            clear hq hsp p1 p2 hqs hqd hq1 hq2 hq3 hlv1 hlv2 hsn1 hsn2 hs1 hs2 ht1 ht2 hget hset
            go_wp2_with fail
            clear e1 e2
            obtain ⟨w3, hw3⟩ : ∃ w3, w3 = wr.alloc (.cells #[.int .i64 q.num, .int .i64 (q.den : Int)] 77) := ⟨_, rfl⟩
            rw [← hw3]
            have hb3 : Below wr.heap.size wr w3 := by rw [hw3]; exact (Below.refl _ _).alloc (Nat.le_refl _) _
            have hX3 : Blk w3 wr.heap.size 77 #[.int .i64 q.num, .int .i64 (q.den : Int)] := by rw [hw3]; exact Blk.new _ _ _ rfl
            have hz3 := hX3.lt
            have H3 := Lib.hid (And.intro hb3 hX3)
            obtain ⟨f0, f1, _, _⟩ := hX3.at2
            have d1 : ∀ s : Desc w3, s.val.cell? ⟨wr.heap.size, 0, none⟩ = some (.int .i64 q.num) := fun s => s.cell f0
            have d2 : ∀ s : Desc w3, s.val.cell? ⟨wr.heap.size, 1, none⟩ = some (.int .i64 (q.den : Int)) := fun s => s.cell f1
            have HL3 : Hid (∀ s : Desc w3, Calls Try.prog 66 #[.agg #[.int .i64 q.num, .int .i64 (q.den : Int)], .agg #[.int .i64 0, .int .i64 1]] s.val fun e w'' => e = .returned (.bool (decide (q < 0))) ∧ ∃ s' : Desc w3, w'' = s'.val) := Lib.hid fun s => Calls.desc_of (HLS.out _)
            have HW3 : Hid (∀ s : Desc w3, Calls Try.prog 47 #[.int .i64 0] s.val fun e w'' => e = .returned (.agg #[.int .i64 0, .int .i64 1]) ∧ ∃ s' : Desc w3, w'' = s'.val) := Lib.hid fun s => Calls.desc_of (HWH2.out _)
            clear hw3 hb3 hX3 f0 f1
            refine wp_region_desc (by kernel_rfl) (by kernel_rfl) ?_
            repeat (go_big_quiet_step (first | (go_at_call 47; exact HW3.out _) | (go_at_call 66; exact HL3.out _)))
            refine wpQuiet_nil ?_
            rintro _ ⟨sd, rfl⟩
            have hb4 := sd.below
            generalize sd.val = w4 at hb4 ⊢
            clear d1 d2
            have hX4 := H3.out.2.below hb4 hz3
            have hb34 : Below wr.heap.size wr w4 := H3.out.1.trans (hb4.mono H3.out.1.size)
            have hS4 := HQ.out.2.1.below hb34 hml
            have hB4 := HQ.out.2.2.1.below hb34 hgl2
            have H4 := Lib.hid (And.intro hb34 (And.intro hX4 (And.intro hS4 hB4)))
            have hz4 : wr.heap.size < w4.heap.size := hX4.lt
            clear hb4 hb34 hX4 hS4 hB4
            by_cases hneg : q < 0
            · have hd : decide (q < 0) = true := decide_eq_true hneg
              rw [hd]
              have HF : Hid (balB B V p S = false) := Lib.hid (bal_cell (i := i) (g := g) (by rw [H.out.1.mkt.hB]; exact hlt) (by rw [H.out.1.hp]; exact hlg) (by
                unfold cellOk
                rw [HSP.out.1, decide_eq_false (by grind)]; rfl))
              have HB := Lib.hid (HQ.out.2.2.2.2.2.2.2.trans (H4.out.1.mono (by omega)))
              clear hneg hd
              go_wp2_with fail
              go_ret
              exact ⟨ret_bool HF.out.symm, HB.out⟩
            · have hd : decide (q < 0) = false := decide_eq_false hneg
              rw [hd]
              have HNN := Lib.hid hneg
              clear hneg hd
              obtain ⟨u0, u1, _, _⟩ := H4.out.2.1.at2
              obtain ⟨v0, v1, _, _⟩ := H4.out.2.2.1.at2
              go_wp2_with fail
              refine (HP1.out _).mono ?_
              rintro e w5 ⟨rfl, hb5⟩
              have hX5 := H4.out.2.1.below hb5 hz4
              have hS5 := H4.out.2.2.1.below hb5 (by omega)
              have hB5 := H4.out.2.2.2.below hb5 (by omega)
              have hb45 : Below wr.heap.size wr w5 := H4.out.1.trans (hb5.mono H4.out.1.size)
              obtain ⟨v0, v1, v2, v3⟩ := hS5.at2
              have n1 : gs ≠ wD.heap.size := by omega
              have n2 : wr.heap.size ≠ wD.heap.size := by omega
              obtain ⟨w6, hw6⟩ : ∃ w6, w6 = (w5.setCell ⟨wD.heap.size, 0, none⟩ (.int .i64 s2.num)).setCell ⟨wD.heap.size, 1, none⟩ (.int .i64 (s2.den : Int)) := ⟨_, rfl⟩
              have hS6 : Blk w6 wD.heap.size 77 #[.int .i64 s2.num, .int .i64 (s2.den : Int)] := by rw [hw6]; exact (hS5.set_ 0 _).set_ 1 _
              have hX6 : Blk w6 wr.heap.size 77 #[.int .i64 q.num, .int .i64 (q.den : Int)] := by rw [hw6]; exact (hX5.far n2 _).far n2 _
              have hB6 : PrB w6 gs 77 ((colTo S k i g).map pr) := by rw [hw6]; exact Blk.far (Blk.far hB5 n1 _) n1 _
              have hk6 : Kept wo.heap.size [gs] wo w6 := by
                rw [hw6]
                exact ((HQ.out.2.2.2.1.trans (Kept.of_below (hb45.mono (by omega)) [gs])).setCell (.inr (by show wo.heap.size ≤ wD.heap.size; exact hwD)) _).setCell (.inr (by show wo.heap.size ≤ wD.heap.size; exact hwD)) _
              have H6 := Lib.hid (And.intro hS6 (And.intro hX6 (And.intro hB6 hk6)))
              have hz6 := hB6.lt
              have hz6x := hX6.lt
              have hz6s := hS6.lt
              clear hX5 hS5 hB5 hb45 hb5 hS6 hX6 hB6 hk6
              go_wp2_with fail
              rw [← hw6]
              clear hw6 u0 u1 v0 v1 v2 v3
              obtain ⟨r1, r2⟩ := H6.out.2.2.1.read HSS.out.2.1
              obtain ⟨u0, u1, _, _⟩ := H6.out.2.1.at2
              have d1 : ∀ s : Desc w6, s.val.cell? ⟨gs, g * 2, none⟩ = some (.int .i64 t1.num) := fun s => s.cell r1
              have d2 : ∀ s : Desc w6, s.val.cell? ⟨gs, g * 2 + 1, none⟩ = some (.int .i64 (t1.den : Int)) := fun s => s.cell r2
              have d3 : ∀ s : Desc w6, s.val.cell? ⟨wr.heap.size, 0, none⟩ = some (.int .i64 q.num) := fun s => s.cell u0
              have d4 : ∀ s : Desc w6, s.val.cell? ⟨wr.heap.size, 1, none⟩ = some (.int .i64 (q.den : Int)) := fun s => s.cell u1
              have HP6 : Hid (∀ s : Desc w6, Calls Try.prog 48 #[.agg #[.int .i64 t1.num, .int .i64 (t1.den : Int)], .agg #[.int .i64 q.num, .int .i64 (q.den : Int)]] s.val fun e w'' => e = .returned (.agg #[.int .i64 t2.num, .int .i64 (t2.den : Int)]) ∧ ∃ s' : Desc w6, w'' = s'.val) := Lib.hid fun s => Calls.desc_of (HP2.out _)
              clear r1 r2 u0 u1
              refine wp_region_desc_tail 9 (by kernel_rfl) (by kernel_rfl) ?_
              simp only [List.take_succ_cons, List.take_zero, List.drop_succ_cons, List.drop_zero]
              repeat (go_big_quiet_step (first | (go_at_call 48; exact HP6.out _)))
              refine wpQuiet_nil ?_
              rintro _ ⟨sd, rfl⟩
              have hb7 := sd.below
              generalize sd.val = w7 at hb7 ⊢
              clear d1 d2 d3 d4
              have hB7 := H6.out.2.2.1.below hb7 hz6
              have hX7 := H6.out.2.1.below hb7 hz6x
              have hS7 := H6.out.1.below hb7 hz6s
              have hk7 : Kept wo.heap.size [gs] wo w7 := H6.out.2.2.2.trans (Kept.of_below (hb7.mono H6.out.2.2.2.size) [gs])
              obtain ⟨r1, r2⟩ := hB7.read HSS.out.2.1
              have r3 := hB7.frozen (g * 2)
              have r4 := hB7.frozen (g * 2 + 1)
              have n3 : wr.heap.size ≠ gs := by omega
              have n4 : wD.heap.size ≠ gs := by omega
              obtain ⟨w8, hw8⟩ : ∃ w8, w8 = (w7.setCell ⟨gs, g * 2, none⟩ (.int .i64 t2.num)).setCell ⟨gs, g * 2 + 1, none⟩ (.int .i64 (t2.den : Int)) := ⟨_, rfl⟩
              have hB8 : PrB w8 gs 77 ((colTo S k i (g + 1)).map pr) := by rw [hw8, ← HSS.out.2.2]; exact hB7.set_ g _ _
              have hX8 : Blk w8 wr.heap.size 77 #[.int .i64 q.num, .int .i64 (q.den : Int)] := by rw [hw8]; exact (hX7.far n3 _).far n3 _
              have hS8 : Blk w8 wD.heap.size 77 #[.int .i64 s2.num, .int .i64 (s2.den : Int)] := by rw [hw8]; exact (hS7.far n4 _).far n4 _
              have hk8 : Kept wo.heap.size [gs] wo w8 := by rw [hw8]; exact (hk7.setCell (.inl (by simp)) _).setCell (.inl (by simp)) _
              have hb8 : Below w2.heap.size w2 w8 := HR.out.2.1.trans (hk8.mono (B' := w2.heap.size) (S' := []) hws (fun y hy => by simp at hy; omega)).below
              have hM8 := H.out.2.2.1.below hb8 (by omega)
              have hN8 := H.out.2.2.2.1.below hb8 (by omega)
              have H8 := Lib.hid (And.intro hB8 (And.intro hS8 (And.intro hk8 (And.intro hb8 hX8))))
              have hz8 := hB8.lt
              have hz8s := hS8.lt
              have HI8 := Lib.hid (H.out.1.below hb8)
              go_wp2_with fail
              rw [← hw8]
              obtain ⟨f0, f1, _, _⟩ := hX8.at2
              obtain ⟨f2, f3, _, _⟩ := hM8.at2
              obtain ⟨f4, _, _, _⟩ := hN8.at2
              have d1 : ∀ s : Desc w8, s.val.cell? ⟨wr.heap.size, 0, none⟩ = some (.int .i64 q.num) := fun s => s.cell f0
              have d2 : ∀ s : Desc w8, s.val.cell? ⟨wr.heap.size, 1, none⟩ = some (.int .i64 (q.den : Int)) := fun s => s.cell f1
              have d3 : ∀ s : Desc w8, s.val.cell? ⟨w.heap.size, 0, none⟩ = some (.slice (some aB) n c) := fun s => s.cell f2
              have d4 : ∀ s : Desc w8, s.val.cell? ⟨w.heap.size, 1, none⟩ = some (.slice U n d) := fun s => s.cell f3
              have d5 : ∀ s : Desc w8, s.val.cell? ⟨w.heap.size + 1, 0, none⟩ = some (.slice (some aP) k cp) := fun s => s.cell f4
              have HW8 : Hid (∀ s : Desc w8, Calls Try.prog 47 #[.int .i64 0] s.val fun e w'' => e = .returned (.agg #[.int .i64 0, .int .i64 1]) ∧ ∃ s' : Desc w8, w'' = s'.val) := Lib.hid fun s => Calls.desc_of (HWH2.out _)
              have HWT : Hid (∀ s : Desc w8, Calls Try.prog 54 #[.agg #[.slice (some aB) n c, .slice U n d], .int .i64 i, .slice (some aP) k cp] s.val fun e w'' => e = .returned (.int .i64 (wantS (rowV V i) p : Nat)) ∧ ∃ s' : Desc w8, w'' = s'.val) := Lib.hid fun s =>
                Calls.desc_of (mwants_any (some aB) n c U n d i (some aP) k cp B V p _ (HI8.out.mkt.below s.below) (by omega) hlt HI8.out.hp hk3 (HI8.out.rows _ (List.mem_of_getElem? (rowV_some (by rw [HI8.out.mkt.hV]; exact hlt)))) HI8.out.pok (HI8.out.hP.below s.below))
              have hne := run_ne_mfrac q 0
              rw [show (0 : Rat).num = 0 from rfl, show ((0 : Rat).den : Int) = 1 from rfl] at hne
              have hwl : wantS (rowV V i) p < 9223372036854775808 := by
                have h1 := wTo_lt (rowV V i) p (rowV V i).length
                have h2 : (rowV V i).length = k := (rowOk_iff.1 (HI8.out.rows _ (List.mem_of_getElem? (rowV_some (by rw [HI8.out.mkt.hV]; exact hlt))))).1
                have h3 : (2 : Nat) ^ (rowV V i).length ≤ 8 := Nat.pow_le_pow_right (n := 2) (by omega) (show (rowV V i).length ≤ 3 by omega)
                unfold wantS
                omega
              clear f0 f1 f2 f3 f4 hw8 hb7 hB7 hX7 hS7 hk7 r1 r2 r3 r4 hB8 hX8 hS8 hk8 hb8 hM8 hN8
              by_cases hq0 : q = 0
              · rw [decide_eq_true hq0] at hne
                have HC : Hid (cellOk V p S i g = true) := Lib.hid (by unfold cellOk; rw [HSP.out.1, decide_eq_true hq0, decide_eq_true (by grind)]; rfl)
                clear hq0
                refine wp_region_desc (by kernel_rfl) (by kernel_rfl) ?_
                repeat (go_big_quiet_step (first | (go_at_call 47; exact HW8.out _)))
                refine wpQuiet_nil ?_
                rintro _ ⟨sd, rfl⟩
                have hb9 := sd.below
                generalize sd.val = w9 at hb9 ⊢
                clear d1 d2 d3 d4 d5 hne
                have hS9 := H8.out.2.1.below hb9 hz8s
                have hB9 := H8.out.1.below hb9 hz8
                have hk9 : Kept wo.heap.size [gs] wo w9 := H8.out.2.2.1.trans (Kept.of_below (hb9.mono H8.out.2.2.1.size) [gs])
                have H9 := Lib.hid (And.intro hS9 (And.intro hB9 hk9))
                clear hb9 hS9 hB9 hk9
                go_wp2_with fail
                go_roundw
                case rel => exact ⟨g + 1, by omega, by go_num, fun h hh => by
                  rcases Nat.lt_or_ge h g with h1 | h1
                  · exact HQ.out.1 h h1
                  · rw [show h = g by omega]; exact HC.out, by rw [← HSS.out.1]; exact H9.out.1, H9.out.2.1, H9.out.2.2⟩
                case measure => simp [intOf]; omega
              · rw [decide_eq_false hq0] at hne
                have hbt := and_shr (wantS (rowV V i) p) g hwl
                cases hbit : (wantS (rowV V i) p).testBit g
                · have HC : Hid (balB B V p S = false) := Lib.hid (bal_cell (i := i) (g := g) (by rw [H.out.1.mkt.hB]; exact hlt) (by rw [H.out.1.hp]; exact hlg) (by
                    unfold cellOk
                    rw [HSP.out.1, decide_eq_false hq0, hbit]; simp))
                  rw [hbit] at hbt
                  have hbt0 : (bits .and .i64 ((wantS (rowV V i) p : Int) / 2 ^ g) 1 == 0) = true := by rw [hbt]; rfl
                  have hbt' : bits .and .i64 ((wantS (rowV V i) p : Int) / 2 ^ g) 1 = 0 := hbt
                  clear hq0 hbit hbt
                  refine wp_region_desc (by kernel_rfl) (by kernel_rfl) ?_
                  repeat (go_big_quiet_step (first | (go_at_call 47; exact HW8.out _) | (go_at_call 54; exact HWT.out _)))
                  refine wpQuiet_nil ?_
                  rintro _ ⟨sd, rfl⟩
                  have hb9 := sd.below
                  generalize sd.val = w9 at hb9 ⊢
                  clear d1 d2 d3 d4 d5 hne
                  have HB9 := Lib.hid (H.out.2.1.trans ((H8.out.2.2.2.1.trans (hb9.mono H8.out.2.2.2.1.size)).mono (by omega)))
                  clear hb9
                  go_wp2_with fail
                  go_ret
                  exact ⟨ret_bool HC.out.symm, HB9.out⟩
                · have HC : Hid (cellOk V p S i g = true) := Lib.hid (by unfold cellOk; rw [HSP.out.1, hbit, decide_eq_true (by have := HNN.out; grind)]; simp)
                  rw [hbit] at hbt
                  have hbt0 : (bits .and .i64 ((wantS (rowV V i) p : Int) / 2 ^ g) 1 == 0) = false := by rw [hbt]; rfl
                  have hbt' : bits .and .i64 ((wantS (rowV V i) p : Int) / 2 ^ g) 1 = 1 := hbt
                  clear hq0 hbit hbt
                  refine wp_region_desc (by kernel_rfl) (by kernel_rfl) ?_
                  repeat (go_big_quiet_step (first | (go_at_call 47; exact HW8.out _) | (go_at_call 54; exact HWT.out _)))
                  refine wpQuiet_nil ?_
                  rintro _ ⟨sd, rfl⟩
                  have hb9 := sd.below
                  generalize sd.val = w9 at hb9 ⊢
                  clear d1 d2 d3 d4 d5 hne
                  have hS9 := H8.out.2.1.below hb9 hz8s
                  have hB9 := H8.out.1.below hb9 hz8
                  have hk9 : Kept wo.heap.size [gs] wo w9 := H8.out.2.2.1.trans (Kept.of_below (hb9.mono H8.out.2.2.1.size) [gs])
                  have H9 := Lib.hid (And.intro hS9 (And.intro hB9 hk9))
                  clear hb9 hS9 hB9 hk9
                  go_wp2_with fail
                  go_roundw
                  case rel => exact ⟨g + 1, by omega, by go_num, fun h hh => by
                    rcases Nat.lt_or_ge h g with h1 | h1
                    · exact HQ.out.1 h h1
                    · rw [show h = g by omega]; exact HC.out, by rw [← HSS.out.1]; exact H9.out.1, H9.out.2.1, H9.out.2.2⟩
                  case measure => simp [intOf]; omega
          · obtain rfl : g = k := by omega
            have hcol : colTo S g i g = colTo S g (i + 1) 0 := colTo_next S g i
            obtain ⟨b, hbb⟩ : ∃ b, B[i]? = some b := ⟨_, List.getElem?_eq_getElem (by rw [H.out.1.mkt.hB]; exact hlt)⟩
            have hbg : B.getD i 0 = b := by rw [List.getD_eq_getElem?_getD, hbb]; rfl
            have p1 := H.out.2.2.2.2.2.2.1 i b hbb
            have e1 := (HQ.out.2.2.2.2.2.2.2.cell (lt_of_cell p1)).trans p1
            have hline := line_of (B := B) (V := V) (p := p) (S := S) (i := i) (by rw [H.out.1.hp]; exact HQ.out.1)
            rw [H.out.1.hp, hbg] at hline
            have hne := run_ne_mfrac (sumF (spd S i) g) ((b : Int) : Rat)
            rw [Rat.num_intCast, Rat.den_intCast, show ((1 : Nat) : Int) = 1 from rfl] at hne
            obtain ⟨s1, hs1⟩ : ∃ s, s = sumF (spd S i) g := ⟨_, rfl⟩
            rw [← hs1] at hne hline HQ
            have HLN := Lib.hid (And.intro hline hcol)
            obtain ⟨f0, f1, _, _⟩ := HQ.out.2.1.at2
            obtain ⟨f2, _, _, _⟩ := HQ.out.2.2.2.2.2.1.at2
            have d1 : ∀ s : Desc wr, s.val.cell? ⟨wD.heap.size, 0, none⟩ = some (.int .i64 s1.num) := fun s => s.cell f0
            have d2 : ∀ s : Desc wr, s.val.cell? ⟨wD.heap.size, 1, none⟩ = some (.int .i64 (s1.den : Int)) := fun s => s.cell f1
            have d3 : ∀ s : Desc wr, s.val.cell? ⟨w.heap.size, 0, none⟩ = some (.slice (some aB) n c) := fun s => s.cell f2
            have d4 : ∀ s : Desc wr, s.val.cell? (aB.add i) = some (.int .i64 b) := fun s => s.cell e1
            have HWH2 := Lib.hid fun w' => mwhole_any b w'
            unfold fr at HWH2
            rw [Rat.num_intCast, Rat.den_intCast] at HWH2
            have HW8 : Hid (∀ s : Desc wr, Calls Try.prog 47 #[.int .i64 b] s.val fun e w'' => e = .returned (.agg #[.int .i64 b, .int .i64 1]) ∧ ∃ s' : Desc wr, w'' = s'.val) := Lib.hid fun s => Calls.desc_of (HWH2.out _)
            have l1 : (i : Int) < (n : Int) := by omega
            clear hbb hbg p1 e1 hline hcol hs1 f0 f1 f2
            go_wp2_with fail
            cases hd : decide (s1 = ((b : Int) : Rat))
            · rw [hd] at hne
              have HF : Hid (balB B V p S = false) := Lib.hid (bal_line (i := i) (by rw [H.out.1.mkt.hB]; exact hlt) (by rw [HLN.out.1, hd]))
              clear hd
              refine wp_region_desc (by kernel_rfl) (by kernel_rfl) ?_
              repeat (go_big_quiet_step (first | (go_at_call 47; exact HW8.out _)))
              refine wpQuiet_nil ?_
              rintro _ ⟨sd, rfl⟩
              have hb9 := sd.below
              generalize sd.val = w9 at hb9 ⊢
              clear d1 d2 d3 d4 hne
              have HB9 := Lib.hid (HQ.out.2.2.2.2.2.2.2.trans (hb9.mono HQ.out.2.2.2.2.2.2.2.size))
              clear hb9
              go_wp2_with fail
              go_ret
              exact ⟨ret_bool HF.out.symm, HB9.out⟩
            · rw [hd] at hne
              have HT : Hid (lineOk B V p S i = true) := Lib.hid (by rw [HLN.out.1, hd])
              clear hd
              refine wp_region_desc (by kernel_rfl) (by kernel_rfl) ?_
              repeat (go_big_quiet_step (first | (go_at_call 47; exact HW8.out _)))
              refine wpQuiet_nil ?_
              rintro _ ⟨sd, rfl⟩
              have hb9 := sd.below
              generalize sd.val = w9 at hb9 ⊢
              clear d1 d2 d3 d4 hne
              have hB9 := HQ.out.2.2.1.below hb9 hgl2
              rw [HLN.out.2] at hB9
              have H9 := Lib.hid (And.intro hB9 (HQ.out.2.2.2.2.2.2.1.trans (hb9.mono HQ.out.2.2.2.2.2.2.1.size)))
              clear hb9 hB9
              go_wp2_with fail
              go_roundw
              case rel => exact ⟨i + 1, by omega, by go_num, fun h hh => by
                rcases Nat.lt_or_ge h i with h1 | h1
                · exact HR.out.2.2.1 h h1
                · rw [show h = i by omega]; exact HT.out, H9.out.1, H9.out.2⟩
              case measure => simp [intOf]; omega
      · obtain rfl : i = n := by omega
        have hbal := bal_of (B := B) (V := V) (p := p) (S := S) (by rw [H.out.1.mkt.hB]; exact HR.out.2.2.1)
        rw [H.out.1.mkt.hB, H.out.1.hp] at hbal
        have hF1 : Fracs wo (some ⟨gs, 0, none⟩) (colTo S k i 0) := HR.out.1.prs
        have HBL := Lib.hid (And.intro hbal (And.intro hF1 (H.out.1.hP.below (HR.out.2.1))))
        clear hbal hF1
        go_wp2_with fail
        refine (equalM_any (some ⟨gs, 0, none⟩) (some aP) k k k cp (colTo S k i 0) p _ (colTo_length _ _ _ _) H.out.1.hp (by omega) HBL.out.2.1 HBL.out.2.2).mono ?_
        rintro e w9 ⟨rfl, m9, rfl⟩
        go_wp2_with fail
        go_ret
        exact ⟨ret_bool (by rw [HBL.out.1]; rfl), below_drewN HR.out.2.2.2 m9⟩

/- Nodes, and maps from nodes that a call makes: laws for look-ups and stores. -/

abbrev Nd := Bool × Nat
def nodeV (x : Nd) : Value := .agg #[.bool x.1, .int .i64 x.2]
theorem nodeV_inj {x y : Nd} (h : nodeV x = nodeV y) : x = y := by
  simp only [nodeV, Value.agg.injEq, Array.mk.injEq, List.cons.injEq, Value.bool.injEq, Value.int.injEq, true_and, and_true] at h
  exact Prod.ext h.1 (by omega)
theorem node_row : (100 : TypeId) < Try.prog.types.size := of_decide_eq_true (by kernel_rfl)
theorem laidOut : laidOutB Try.prog = true := by kernel_rfl
theorem node_deep : Try.prog.keyTypeAt 2 100 = true := by kernel_rfl
theorem node_law : WideMaps.KeyLaw Try.prog 100 := deep_law_laid laidOut (m := 2) (by omega) node_row node_deep (by rw [Try.underlying100])
theorem keyN : Maps.Keyed Try.prog 100 := Maps.Keyed.of_law node_law
def nk (x : Nd) : Lit := .string [if x.1 then 1 else 0, 0, 0, 0, 0, 0, 0, 0, UInt8.ofNat x.2]
theorem nk_f0 : keyOf Try.prog 100 (nodeV (false, 0)) = some (nk (false, 0)) := by kernel_rfl
theorem nk_f1 : keyOf Try.prog 100 (nodeV (false, 1)) = some (nk (false, 1)) := by kernel_rfl
theorem nk_f2 : keyOf Try.prog 100 (nodeV (false, 2)) = some (nk (false, 2)) := by kernel_rfl
theorem nk_t0 : keyOf Try.prog 100 (nodeV (true, 0)) = some (nk (true, 0)) := by kernel_rfl
theorem nk_t1 : keyOf Try.prog 100 (nodeV (true, 1)) = some (nk (true, 1)) := by kernel_rfl
theorem nk_t2 : keyOf Try.prog 100 (nodeV (true, 2)) = some (nk (true, 2)) := by kernel_rfl
theorem nk_some (b : Bool) (i : Nat) (hi : i < 3) : keyOf Try.prog 100 (nodeV (b, i)) = some (nk (b, i)) := by
  have : i = 0 ∨ i = 1 ∨ i = 2 := by omega
  cases b <;> rcases this with rfl | rfl | rfl
  · exact nk_f0
  · exact nk_f1
  · exact nk_f2
  · exact nk_t0
  · exact nk_t1
  · exact nk_t2
theorem nk_ne {x y : Nd} (hx : x.2 < 3) (hy : y.2 < 3) (h : x ≠ y) : nk x ≠ nk y := by
  obtain ⟨a, i⟩ := x
  obtain ⟨c, j⟩ := y
  simp only at hx hy
  have h1 : i = 0 ∨ i = 1 ∨ i = 2 := by omega
  have h2 : j = 0 ∨ j = 1 ∨ j = 2 := by omega
  revert h
  cases a <;> cases c <;> rcases h1 with rfl | rfl | rfl <;> rcases h2 with rfl | rfl | rfl <;> intro h e <;> first | exact h rfl | (simp [nk] at e; done) | exact absurd e (by simp only [nk, Lit.string.injEq]; decide)
def RV (v : Value) : Option (DataW Value × List MemPlace) := some (.held v, [])
/-- Block b is a map from nodes, with at most n entries, that gives f; what is lacking is z. -/
def MapN (w : World) (b n : Nat) (z : Value) (f : Nd → Value) : Prop :=
  ∃ D : DataW Value, w.ownsMap Try.prog 100 RV b n D ∧ Maps.IsMap D ∧ ∀ x : Nd, x.2 < 3 → D.atKey (nk x) (.held z) = .held (f x)
theorem MapN.made (w : World) (z : Value) : MapN (w.alloc (.map #[] 0)) w.heap.size 0 z (fun _ => z) :=
  ⟨_, World.ownsMap_made w Try.prog 100 _, Maps.isMap_empty, fun x _ => by simp [DataW.atKey]⟩
theorem MapN.lt {w : World} {b n : Nat} {z : Value} {f : Nd → Value} (h : MapN w b n z f) : b < w.heap.size := by obtain ⟨D, h, _⟩ := h; exact h.lt
theorem MapN.kept {w w' : World} {b n : Nat} {z : Value} {f : Nd → Value} (h : MapN w b n z f) (hb : w'.heap[b]? = w.heap[b]?) : MapN w' b n z f := by
  obtain ⟨D, ⟨es, clock, hm, F, hs, hD⟩, h2, h3⟩ := h
  exact ⟨D, ⟨es, clock, hb.trans hm, F, hs, hD⟩, h2, h3⟩
theorem MapN.mono {w : World} {b n n' : Nat} {z : Value} {f : Nd → Value} (h : MapN w b n z f) (hn : n ≤ n') : MapN w b n' z f := by
  obtain ⟨D, h, h2, h3⟩ := h
  exact ⟨D, h.mono hn, h2, h3⟩
theorem MapN.look {w : World} {b n : Nat} {z : Value} {f : Nd → Value} (h : MapN w b n z f) {t e : TypeId} (ht : Try.prog.underlying t = some (.map 100 e)) (hz : (zeroValue e).run Try.prog w = .ok z w) {c : Bool} {i : Nat} (hi : i < 3) :
    (Instr.lookup t (.map (some b)) (.agg #[.bool c, .int .i64 (i : Int)]) false).run Try.prog w = .ok (f (c, i)) w := by
  obtain ⟨D, hown, _, hat⟩ := h
  obtain ⟨v, ps, hrun, hv⟩ := hown.lookup keyN ht hz (show RV z = some (.held z, []) from rfl) (nk_some c i hi)
  rw [hat (c, i) hi] at hv
  simp only [RV, Option.some.injEq, Prod.mk.injEq, DataW.held.injEq] at hv
  rw [← hv.1]
  exact hrun
theorem MapN.store {w : World} {b n : Nat} {z : Value} {f : Nd → Value} (h : MapN w b n z f) {t e : TypeId} (ht : Try.prog.underlying t = some (.map 100 e)) {c : Bool} {i : Nat} (hi : i < 3) (v : Value) (hn : n ≤ 1000) :
    ∃ w', (Instr.mapUpdate t (.map (some b)) (.agg #[.bool c, .int .i64 (i : Int)]) v).run Try.prog w = .ok () w' ∧ MapN w' b (n + 1) z (fun y => if y = (c, i) then v else f y) ∧ w.grownBy w' (some b) := by
  obtain ⟨D, hown, hm, hat⟩ := h
  obtain ⟨w', hrun, hown', hg⟩ := hown.update keyN ht (by unfold maxLen; omega) (nk_some c i hi) (show RV v = some (.held v, []) from rfl)
  refine ⟨w', hrun, ⟨_, hown', hm.put _ _, fun y hy => ?_⟩, hg⟩
  by_cases he : y = (c, i)
  · subst he
    rw [Maps.atKey_put_same hm (show WideAt.IsKeyLit (nk (c, i)) from trivial)]
    simp
  · rw [Maps.atKey_put_other (nk_ne hy hi he), hat y hy]
    simp [he]

/- The search of what is connected to a good: plain Lean. -/

def useN (V : List (List Int)) (i g : Nat) : Int := (rowV V i).getD g 0
def upd {α β : Type} [DecidableEq α] (f : α → β) (a : α) (b : β) : α → β := fun y => if y = a then b else f y
theorem upd_same {α β : Type} [DecidableEq α] (f : α → β) (a : α) (b : β) : upd f a b a = b := by unfold upd; rw [if_pos rfl]
theorem upd_other {α β : Type} [DecidableEq α] (f : α → β) (a : α) (b : β) {y : α} (h : y ≠ a) : upd f a b y = f y := by unfold upd; rw [if_neg h]
/-- What the search knows: the nodes in their order, where each was come from, which are done, and the prices. -/
structure CSt where
  ord : List Nd
  par : Nd → Nd
  don : Nd → Bool
  pq : Nat → Rat
def nextOf (x : Nd) (y : Nat) : Nd := (!x.1, y)
def buyerOf (x : Nd) (y : Nat) : Nat := if x.1 then y else x.2
def goodOf (x : Nd) (y : Nat) : Nat := if x.1 then x.2 else y
def skipB (V : List (List Int)) (e n k : Nat) (st : CSt) (x : Nd) (y : Nat) : Bool :=
  decide (n ≤ buyerOf x y) || (decide (goodsN V ≤ goodOf x y) || (!e.testBit (buyerOf x y * goodsN V + goodOf x y) || (decide (nextOf x y = st.par x) && decide (0 < k))))
/-- The price of a good that is found. -/
def relP (V : List (List Int)) (st : CSt) (x : Nd) (y : Nat) : Rat := st.pq (st.par x).2 * ((useN V x.2 y : Rat) / (useN V x.2 (st.par x).2 : Rat))
def stepC (V : List (List Int)) (st : CSt) (x : Nd) (y : Nat) : CSt :=
  { ord := st.ord ++ [nextOf x y], par := upd st.par (nextOf x y) x, don := upd st.don (nextOf x y) true, pq := if x.1 then st.pq else upd st.pq y (relP V st x y) }
def visit (V : List (List Int)) (e n k : Nat) (st : CSt) (x : Nd) (y : Nat) : Option CSt :=
  if skipB V e n k st x y then some st else if st.don (nextOf x y) || decide (useN V (buyerOf x y) (goodOf x y) = 0) then none else some (stepC V st x y)
def visitTo (V : List (List Int)) (e n k : Nat) (st : CSt) (x : Nd) : Nat → Option CSt
  | 0 => some st
  | y + 1 => (visitTo V e n k st x y).bind fun s => visit V e n k s x y
def srchTo (V : List (List Int)) (e n M : Nat) (st : CSt) : Nat → Option CSt
  | 0 => some st
  | k + 1 => (srchTo V e n M st k).bind fun s => match s.ord[k]? with
    | some x => visitTo V e n k s x M
    | none => some s
def start0 (don : Nd → Bool) (pq : Nat → Rat) (first : Nat) : CSt :=
  { ord := [(true, first)], par := fun _ => (false, 0), don := upd don (true, first) true, pq := upd pq first 1 }
def totOf (pq : Nat → Rat) : List Nd → Rat
  | [] => 0
  | x :: l => (if x.1 then pq x.2 else 0) + totOf pq l
def budOf (B : List Int) : List Nd → Int
  | [] => 0
  | x :: l => (if x.1 then 0 else B.getD x.2 0) + budOf B l
theorem totOf_snoc (pq : Nat → Rat) (l : List Nd) (x : Nd) : totOf pq (l ++ [x]) = totOf pq l + (if x.1 then pq x.2 else 0) := by
  induction l with
  | nil => simp [totOf]; grind
  | cons y l ih => simp only [List.cons_append, totOf, ih]; grind
theorem budOf_snoc (B : List Int) (l : List Nd) (x : Nd) : budOf B (l ++ [x]) = budOf B l + (if x.1 then 0 else B.getD x.2 0) := by
  induction l with
  | nil => simp [budOf]
  | cons y l ih => simp only [List.cons_append, budOf, ih]; omega
theorem totOf_congr {pq pq' : Nat → Rat} : ∀ {l : List Nd}, (∀ x ∈ l, x.1 = true → pq' x.2 = pq x.2) → totOf pq' l = totOf pq l
  | [], _ => rfl
  | x :: l, h => by
    simp only [totOf]
    rw [totOf_congr (l := l) (fun y hy => h y (List.mem_cons_of_mem _ hy))]
    cases hx : x.1
    · rfl
    · rw [if_pos rfl, if_pos rfl, h x (by simp) hx]
/-- How many goods. -/
def cN (l : List Nd) : Nat := (l.filter fun x => x.1).length
theorem cN_snoc (l : List Nd) (x : Nd) : cN (l ++ [x]) = cN l + (if x.1 then 1 else 0) := by
  unfold cN
  rw [List.filter_append]
  cases hx : x.1 <;> simp [hx]
theorem cN_pos {l : List Nd} {g : Nat} (h : (true, g) ∈ l) : 1 ≤ cN l := by
  unfold cN
  have : (true, g) ∈ l.filter fun x => x.1 := List.mem_filter.2 ⟨h, rfl⟩
  exact List.length_pos_of_mem this
theorem cN_le {l : List Nd} (hn : l.Nodup) {G : Nat} (h : ∀ x ∈ l, x.1 = true → x.2 < G) : cN l ≤ G := by
  have h1 : (l.filter fun x => x.1) ⊆ (List.range G).map fun g => (true, g) := by
    intro x hx
    obtain ⟨a, b⟩ := List.mem_filter.1 hx
    exact List.mem_map.2 ⟨x.2, List.mem_range.2 (h x a b), Prod.ext b.symm rfl⟩
  have := List.Nodup.length_le_of_subset (hn.filter _) h1
  unfold cN
  simpa using this
theorem len_le {l : List Nd} (hn : l.Nodup) {n G : Nat} (h : ∀ x ∈ l, x.2 < if x.1 then G else n) : l.length ≤ n + G := by
  have h1 : l ⊆ ((List.range G).map fun g => (true, g)) ++ (List.range n).map fun i => (false, i) := by
    intro x hx
    have := h x hx
    obtain ⟨b, i⟩ := x
    cases b
    · exact List.mem_append_right _ (List.mem_map.2 ⟨i, List.mem_range.2 this, rfl⟩)
    · exact List.mem_append_left _ (List.mem_map.2 ⟨i, List.mem_range.2 this, rfl⟩)
  have := List.Nodup.length_le_of_subset hn h1
  simp at this
  omega
/-- What is true of the search. -/
structure CInv (V : List (List Int)) (n first : Nat) (st : CSt) : Prop where
  hd : st.ord[0]? = some (true, first)
  nd : st.ord.Nodup
  rng : ∀ x ∈ st.ord, x.2 < if x.1 then goodsN V else n
  isdon : ∀ x ∈ st.ord, st.don x = true
  par : ∀ (j : Nat) (x : Nd), st.ord[j]? = some x → 0 < j → (∃ i, i < j ∧ st.ord[i]? = some (st.par x)) ∧ (st.par x).1 = (!x.1) ∧ 0 < useN V (if x.1 then (st.par x).2 else x.2) (if x.1 then x.2 else (st.par x).2)
  prc : ∃ (D : Int) (a : Nat → Int), (1 ≤ D ∧ D ≤ 20 ^ (cN st.ord - 1)) ∧ ∀ g, (true, g) ∈ st.ord → (1 ≤ a g ∧ a g ≤ 20 ^ (cN st.ord - 1)) ∧ st.pq g = (a g : Rat) / (D : Rat)
theorem CInv.start {V : List (List Int)} {n first : Nat} (don : Nd → Bool) (pq : Nat → Rat) (hf : first < goodsN V) : CInv V n first (start0 don pq first) where
  hd := rfl
  nd := by simp [start0]
  rng := by intro x hx; simp [start0] at hx; subst hx; exact hf
  isdon := by intro x hx; simp [start0] at hx; subst hx; exact upd_same _ _ _
  par := by
    intro j x hx hj
    simp only [start0] at hx
    rw [List.getElem?_eq_none (by simp; omega)] at hx
    cases hx
  prc := by
    refine ⟨1, fun _ => 1, ⟨by decide, by simp [start0, cN]⟩, fun g hg => ⟨⟨Int.le_refl _, by simp [start0, cN]⟩, ?_⟩⟩
    simp [start0] at hg
    subst hg
    rw [show (start0 don pq g).pq g = 1 from upd_same _ _ _]
    show (1 : Rat) = ((1 : Int) : Rat) / ((1 : Int) : Rat)
    decide +kernel
theorem CInv.step {V : List (List Int)} {n first : Nat} {st : CSt} (h : CInv V n first st) (hu : ∀ i g, 0 ≤ useN V i g ∧ useN V i g ≤ 20) {k : Nat} {x : Nd} {y : Nat} (hx : st.ord[k]? = some x)
    (hy1 : buyerOf x y < n) (hy2 : goodOf x y < goodsN V) (hd : st.don (nextOf x y) = false) (h0 : useN V (buyerOf x y) (goodOf x y) ≠ 0) : CInv V n first (stepC V st x y) := by
  have hnew : nextOf x y ∉ st.ord := fun hm => by rw [h.isdon _ hm] at hd; cases hd
  have hkl : k < st.ord.length := (List.getElem?_eq_some_iff.1 hx).1
  have hmem : x ∈ st.ord := List.mem_of_getElem? hx
  have hpos : 0 < useN V (buyerOf x y) (goodOf x y) := by have := (hu (buyerOf x y) (goodOf x y)).1; omega
  have hfirst : (true, first) ∈ st.ord := List.mem_of_getElem? h.hd
  constructor
  · show (st.ord ++ [nextOf x y])[0]? = _
    rw [List.getElem?_append_left (by omega)]
    exact h.hd
  · show (st.ord ++ [nextOf x y]).Nodup
    rw [List.nodup_append]
    exact ⟨h.nd, by simp, fun a ha b hb => by simp at hb; subst hb; rintro rfl; exact hnew ha⟩
  · intro z hz
    rcases List.mem_append.1 (show z ∈ st.ord ++ [nextOf x y] from hz) with hz | hz
    · exact h.rng z hz
    · rw [List.mem_singleton] at hz
      subst hz
      obtain ⟨b, i⟩ := x
      cases b
      · exact hy2
      · exact hy1
  · intro z hz
    rcases List.mem_append.1 (show z ∈ st.ord ++ [nextOf x y] from hz) with hz | hz
    · show upd st.don (nextOf x y) true z = true
      unfold upd
      split
      · rfl
      · exact h.isdon z hz
    · rw [List.mem_singleton] at hz
      subst hz
      exact upd_same _ _ _
  · intro j z hz hj
    have hz' : (st.ord ++ [nextOf x y])[j]? = some z := hz
    by_cases hjl : j < st.ord.length
    · rw [List.getElem?_append_left hjl] at hz'
      have hzm : z ∈ st.ord := List.mem_of_getElem? hz'
      have hzn : z ≠ nextOf x y := fun e => hnew (e ▸ hzm)
      have e : (stepC V st x y).par z = st.par z := upd_other _ _ _ hzn
      obtain ⟨⟨i, hi, hi2⟩, h2, h3⟩ := h.par j z hz' hj
      rw [e]
      refine ⟨⟨i, hi, ?_⟩, h2, h3⟩
      show (st.ord ++ [nextOf x y])[i]? = _
      rw [List.getElem?_append_left (by omega)]
      exact hi2
    · rw [List.getElem?_append_right (by omega)] at hz'
      have hj0 : j - st.ord.length = 0 := by
        rcases Nat.eq_zero_or_pos (j - st.ord.length) with h | h
        · exact h
        · rw [List.getElem?_eq_none (by simp; omega)] at hz'; cases hz'
      rw [hj0] at hz'
      simp at hz'
      subst hz'
      have e : (stepC V st x y).par (nextOf x y) = x := upd_same _ _ _
      rw [e]
      refine ⟨⟨k, by omega, ?_⟩, by simp [nextOf], ?_⟩
      · show (st.ord ++ [nextOf x y])[k]? = _
        rw [List.getElem?_append_left hkl]
        exact hx
      · obtain ⟨b, i⟩ := x
        cases b
        · exact hpos
        · exact hpos
  · obtain ⟨D, a, hD, ha⟩ := h.prc
    have ecn : cN (stepC V st x y).ord = cN st.ord + (if (nextOf x y).1 then 1 else 0) := cN_snoc _ _
    cases hb : x.1
    · -- a buyer: the next one is a good
      have hk : 0 < k := by
        rcases Nat.eq_zero_or_pos k with h' | h'
        · subst h'; rw [h.hd] at hx; cases hx; cases hb
        · exact h'
      obtain ⟨⟨i0, hi0, hi1⟩, hp1, hp2⟩ := h.par k x hx hk
      rw [hb] at hp1 hp2
      simp only [Bool.not_false, Bool.false_eq_true, if_false] at hp1 hp2
      have hpm : (true, (st.par x).2) ∈ st.ord := by
        have := List.mem_of_getElem? hi1
        rwa [show st.par x = (true, (st.par x).2) from Prod.ext hp1 rfl] at this
      have hc1 := cN_pos hfirst
      have hn1 : (nextOf x y).1 = true := by simp [nextOf, hb]
      rw [hn1, if_pos rfl] at ecn
      have e20 : (20 : Int) ^ (cN (stepC V st x y).ord - 1) = 20 ^ (cN st.ord - 1) * 20 := by
        rw [ecn, show cN st.ord + 1 - 1 = cN st.ord - 1 + 1 by omega, Int.pow_succ]
      have hu1 := hu x.2 (st.par x).2
      have hbo : buyerOf x y = x.2 := by simp [buyerOf, hb]
      have hgo : goodOf x y = y := by simp [goodOf, hb]
      rw [hbo, hgo] at hpos
      have hu2 := hu x.2 y
      generalize hP : (20 : Int) ^ (cN st.ord - 1) = P at *
      have up : ∀ {s t : Int}, 1 ≤ s → s ≤ P → 1 ≤ t → t ≤ 20 → 1 ≤ s * t ∧ s * t ≤ P * 20 := fun {s t} h1 h2 h3 h4 =>
        ⟨by have := Int.mul_le_mul h1 h3 (by omega) (by omega); simpa using this, Int.mul_le_mul h2 h4 (by omega) (by omega)⟩
      obtain ⟨a', ha1, ha2⟩ : ∃ a' : Nat → Int, a' y = a (st.par x).2 * useN V x.2 y ∧ ∀ g, g ≠ y → a' g = a g * useN V x.2 (st.par x).2 :=
        ⟨upd (fun g => a g * useN V x.2 (st.par x).2) y (a (st.par x).2 * useN V x.2 y), upd_same _ _ _, fun g hg => upd_other _ _ _ hg⟩
      refine ⟨D * useN V x.2 (st.par x).2, a', ?_, fun g hg => ?_⟩
      · rw [e20]
        exact up hD.1 hD.2 hp2 hu1.2
      · have hpq : (stepC V st x y).pq = upd st.pq y (relP V st x y) := by simp [stepC, hb]
        rw [e20, hpq]
        have hDr : (D : Rat) ≠ 0 := by
          intro e0
          have : D = 0 := by exact_mod_cast e0
          omega
        have hUr : (useN V x.2 (st.par x).2 : Rat) ≠ 0 := by
          intro e0
          have : useN V x.2 (st.par x).2 = 0 := by exact_mod_cast e0
          omega
        by_cases hgy : g = y
        · subst hgy
          rw [ha1, upd_same]
          obtain ⟨hap, haq⟩ := ha _ hpm
          refine ⟨up hap.1 hap.2 hpos hu2.2, ?_⟩
          unfold relP
          rw [haq, Rat.intCast_mul, Rat.intCast_mul]
          grind
        · rw [ha2 g hgy, upd_other _ _ _ hgy]
          have hgm : (true, g) ∈ st.ord := by
            rcases List.mem_append.1 (show (true, g) ∈ st.ord ++ [nextOf x y] from hg) with h' | h'
            · exact h'
            · rw [List.mem_singleton] at h'
              exfalso
              apply hgy
              have := congrArg Prod.snd h'
              exact this
          obtain ⟨hag, hgq⟩ := ha g hgm
          refine ⟨up hag.1 hag.2 hp2 hu1.2, ?_⟩
          rw [hgq, Rat.intCast_mul, Rat.intCast_mul]
          grind
    · have hn1 : (nextOf x y).1 = false := by simp [nextOf, hb]
      rw [hn1] at ecn
      simp only [Bool.false_eq_true, if_false, Nat.add_zero] at ecn
      rw [ecn]
      refine ⟨D, a, hD, fun g hg => ?_⟩
      have hpq : (stepC V st x y).pq = st.pq := by simp [stepC, hb]
      rw [hpq]
      refine ha g ?_
      rcases List.mem_append.1 (show (true, g) ∈ st.ord ++ [nextOf x y] from hg) with h' | h'
      · exact h'
      · rw [List.mem_singleton] at h'
        have := congrArg Prod.fst h'
        rw [hn1] at this
        cases this

/- The sizes of what a component's search reckons: plain Lean. -/

theorem frac_bd {q : Rat} {a b : Int} (hb : 0 < b) (h : q = (a : Rat) / (b : Rat)) : q.num.natAbs ≤ a.natAbs ∧ (q.den : Int) ≤ b := by
  rw [← Rat.divInt_eq_div] at h
  subst h
  exact ⟨abs_divInt hb, Int.le_of_dvd hb (dvd_num hb).2⟩
theorem frac_nn {q : Rat} {a b : Int} (hb : 0 < b) (ha : 0 ≤ a) (h : q = (a : Rat) / (b : Rat)) : 0 ≤ q.num := by
  rw [← Rat.divInt_eq_div] at h
  subst h
  rw [← div_num hb, Int.tdiv_eq_ediv_of_nonneg ha]
  exact Int.ediv_nonneg ha (Int.natCast_nonneg _)
theorem frac_pos {q : Rat} {a b : Int} (hb : 0 < b) (ha : 0 < a) (h : q = (a : Rat) / (b : Rat)) : 0 < q.num ∧ q.num ≤ a ∧ (q.den : Int) ≤ b := by
  obtain ⟨h1, h2⟩ := frac_bd hb h
  have h3 := frac_nn hb (by omega) h
  have h4 : q.num ≠ 0 := by
    intro h5
    rw [← Rat.divInt_eq_div] at h
    have := (dvd_num (a := a) hb).1
    rw [← h, h5] at this
    have := Int.zero_dvd.1 this
    omega
  omega
def RelB (q : Rat) : Prop := 1 ≤ q.num ∧ q.num ≤ 400 ∧ (q.den : Int) ≤ 400
def TotB (q : Rat) : Prop := 0 ≤ q.num ∧ q.num ≤ 1200 ∧ (q.den : Int) ≤ 400
theorem pow20 {c : Nat} (h : c ≤ 2) : (20 : Int) ^ c ≤ 400 := by
  have : c = 0 ∨ c = 1 ∨ c = 2 := by omega
  rcases this with rfl | rfl | rfl <;> decide
/-- The prices have one denominator. -/
def OneD (pq : Nat → Rat) (l : List Nd) (D : Int) (a : Nat → Int) : Prop := (1 ≤ D ∧ D ≤ 400) ∧ ∀ g, (true, g) ∈ l → (1 ≤ a g ∧ a g ≤ 400) ∧ pq g = (a g : Rat) / (D : Rat)
section
variable {V : List (List Int)} {n first : Nat} {st : CSt}
theorem CInv.cn (h : CInv V n first st) (hG : goodsN V ≤ 3) : cN st.ord ≤ 3 :=
  Nat.le_trans (cN_le h.nd fun x hx hb => by have := h.rng x hx; rw [hb] at this; exact this) hG
theorem CInv.one (h : CInv V n first st) (hG : goodsN V ≤ 3) : ∃ D a, OneD st.pq st.ord D a := by
  obtain ⟨D, a, hD, ha⟩ := h.prc
  have hc := h.cn hG
  have hp := pow20 (c := cN st.ord - 1) (by omega)
  exact ⟨D, a, ⟨hD.1, by omega⟩, fun g hg => ⟨⟨(ha g hg).1.1, by have := (ha g hg).1.2; omega⟩, (ha g hg).2⟩⟩
theorem CInv.len (h : CInv V n first st) (hG : goodsN V ≤ 3) (hn : n ≤ 3) : st.ord.length ≤ 6 := by
  have := len_le h.nd h.rng
  omega
end
theorem OneD.rel {pq : Nat → Rat} {l : List Nd} {D : Int} {a : Nat → Int} (h : OneD pq l D a) {g : Nat} (hg : (true, g) ∈ l) : RelB (pq g) := by
  obtain ⟨h1, h2⟩ := h.2 g hg
  have := frac_pos (by have := h.1; omega) (by omega) h2
  have := h.1
  unfold RelB
  omega
theorem OneD.tot {pq : Nat → Rat} {l : List Nd} {D : Int} {a : Nat → Int} (h : OneD pq l D a) : ∃ t : Int, (cN l : Int) ≤ t ∧ t ≤ 400 * (cN l : Int) ∧ totOf pq l = (t : Rat) / (D : Rat) := by
  obtain ⟨hD, ha⟩ := h
  have hDr : (D : Rat) ≠ 0 := by
    intro e0
    have : D = 0 := by exact_mod_cast e0
    omega
  induction l with
  | nil => exact ⟨0, by decide, by decide, by simp [totOf]; grind⟩
  | cons x l ih =>
    obtain ⟨t, h1, h2, h3⟩ := ih fun g hg => ha g (List.mem_cons_of_mem _ hg)
    obtain ⟨b, i⟩ := x
    cases b
    · exact ⟨t, by simpa [cN] using h1, by simpa [cN] using h2, by simp only [totOf, h3]; grind⟩
    · obtain ⟨g1, g2⟩ := ha i (by simp)
      have ec : cN ((true, i) :: l) = cN l + 1 := by simp [cN]
      refine ⟨t + a i, by rw [ec]; omega, by rw [ec]; omega, ?_⟩
      simp only [totOf, h3, if_true, g2, Rat.intCast_add]
      grind
theorem OneD.sub {pq : Nat → Rat} {l l' : List Nd} {D : Int} {a : Nat → Int} (h : OneD pq l D a) (hs : ∀ x ∈ l', x ∈ l) : OneD pq l' D a := ⟨h.1, fun g hg => h.2 g (hs _ hg)⟩
theorem cN_take {l : List Nd} (k : Nat) : cN (l.take k) ≤ cN l := (List.Sublist.filter _ (List.take_sublist k l)).length_le
section
variable {V : List (List Int)} {n first : Nat} {st : CSt}
theorem CInv.relB (h : CInv V n first st) (hG : goodsN V ≤ 3) {g : Nat} (hg : (true, g) ∈ st.ord) : RelB (st.pq g) := by
  obtain ⟨D, a, ho⟩ := h.one hG
  exact ho.rel hg
theorem CInv.totB (h : CInv V n first st) (hG : goodsN V ≤ 3) (k : Nat) : TotB (totOf st.pq (st.ord.take k)) := by
  obtain ⟨D, a, ho⟩ := h.one hG
  obtain ⟨t, h1, h2, h3⟩ := (ho.sub (l' := st.ord.take k) fun x hx => List.mem_of_mem_take hx).tot
  have hc := h.cn hG
  have hk := cN_take (l := st.ord) k
  have hD := ho.1
  obtain ⟨b1, b2⟩ := frac_bd (by omega) h3
  have := frac_nn (by omega) (by omega) h3
  unfold TotB
  omega
end
/-- What the block of prices holds. -/
def psOf (G : Nat) (don : Nd → Bool) (pq : Nat → Rat) : List (Int × Int) := (List.range G).map fun g => if don (true, g) then pr (pq g) else (0, 0)
theorem psOf_get {G : Nat} {don : Nd → Bool} {pq : Nat → Rat} {g : Nat} (hg : g < G) (hd : don (true, g) = true) : (psOf G don pq)[g]? = some ((pq g).num, ((pq g).den : Int)) := by
  unfold psOf
  rw [List.getElem?_map, List.getElem?_range hg, Option.map_some, hd]
  rfl
theorem psOf_set {G : Nat} {don : Nd → Bool} {pq : Nat → Rat} {g : Nat} (q : Rat) : (psOf G don pq).set g (q.num, (q.den : Int)) = psOf G (upd don (true, g) true) (upd pq g q) := by
  apply List.ext_getElem?
  intro h
  rw [List.getElem?_set]
  by_cases e : g = h
  · subst e
    rw [if_pos rfl]
    by_cases hg : g < G
    · rw [if_pos (by simpa [psOf] using hg), psOf_get hg (upd_same _ _ _), upd_same]
    · rw [if_neg (by simpa [psOf] using hg), List.getElem?_eq_none (by simp [psOf]; omega)]
  · rw [if_neg e]
    unfold psOf
    rw [List.getElem?_map, List.getElem?_map]
    by_cases hh : h < G
    · rw [List.getElem?_range hh, Option.map_some, Option.map_some, upd_other _ _ _ (by intro e'; exact e (congrArg Prod.snd e').symm), upd_other _ _ _ (fun e' => e e'.symm)]
    · rw [List.getElem?_eq_none (by simpa using hh)]; rfl
theorem psOf_buyer {G : Nat} {don : Nd → Bool} {pq : Nat → Rat} {i : Nat} (b : Bool) : psOf G (upd don (false, i) b) pq = psOf G don pq := by
  unfold psOf
  refine List.map_congr_left fun g _ => ?_
  rw [upd_other _ _ _ (by intro e; cases e)]

/- What a component answers: plain Lean. -/

theorem visitTo_none {V : List (List Int)} {e n k : Nat} {st : CSt} {x : Nd} {y : Nat} (h : visitTo V e n k st x y = none) : ∀ z, y ≤ z → visitTo V e n k st x z = none := by
  intro z hz
  induction z with
  | zero => rw [show y = 0 by omega] at h; exact h
  | succ z ih =>
    rcases Nat.lt_or_ge y (z + 1) with h1 | h1
    · simp only [visitTo]; rw [ih (by omega)]; rfl
    · rw [show z + 1 = y by omega]; exact h
theorem srchTo_none {V : List (List Int)} {e n M : Nat} {st : CSt} {k : Nat} (h : srchTo V e n M st k = none) : ∀ z, k ≤ z → srchTo V e n M st z = none := by
  intro z hz
  induction z with
  | zero => rw [show k = 0 by omega] at h; exact h
  | succ z ih =>
    rcases Nat.lt_or_ge k (z + 1) with h1 | h1
    · simp only [srchTo]; rw [ih (by omega)]; rfl
    · rw [show z + 1 = k by omega]; exact h
/-- When every node has been looked at, nothing more comes. -/
theorem srchTo_end {V : List (List Int)} {e n M : Nat} {st s : CSt} {k : Nat} (h : srchTo V e n M st k = some s) (hl : s.ord.length ≤ k) : ∀ z, k ≤ z → srchTo V e n M st z = some s := by
  intro z hz
  induction z with
  | zero => rw [show k = 0 by omega] at h; exact h
  | succ z ih =>
    rcases Nat.lt_or_ge k (z + 1) with h1 | h1
    · simp only [srchTo]; rw [ih (by omega), Option.bind_some, List.getElem?_eq_none (by omega)]
    · rw [show z + 1 = k by omega]; exact h
/-- The search's end. -/
def compF (V : List (List Int)) (e n k first : Nat) (don : Nd → Bool) (pq : Nat → Rat) : Option CSt := srchTo V e n (max n k) (start0 don pq first) 6
def facOf (B : List Int) (st : CSt) : Rat := ((budOf B st.ord : Int) : Rat) / totOf st.pq st.ord
/-- The prices while the first i nodes are scaled. -/
def scaTo (f : Rat) (ord : List Nd) (pq : Nat → Rat) (i : Nat) (g : Nat) : Rat := if (true, g) ∈ ord.take i then pq g * f else pq g
theorem scaTo_good {f : Rat} {ord : List Nd} {pq : Nat → Rat} {i g : Nat} (hn : ord.Nodup) (h : ord[i]? = some (true, g)) : scaTo f ord pq (i + 1) = upd (scaTo f ord pq i) g (scaTo f ord pq i g * f) := by
  have ht : ord.take (i + 1) = ord.take i ++ [(true, g)] := by rw [List.take_add_one, h]; rfl
  have hg : (true, g) ∉ ord.take i := by
    intro hm
    have hnn : (ord.take (i + 1)).Nodup := (List.take_sublist _ _).nodup hn
    rw [ht, List.nodup_append] at hnn
    exact hnn.2.2 _ hm _ (by simp) rfl
  funext g'
  unfold scaTo upd
  rw [ht]
  by_cases e : g' = g
  · subst e
    rw [if_pos rfl, if_pos (by simp), if_neg hg]
  · rw [if_neg e]
    have : ((true, g') ∈ ord.take i ++ [(true, g)]) ↔ (true, g') ∈ ord.take i := by simp [e]
    simp only [this]
theorem scaTo_buyer {f : Rat} {ord : List Nd} {pq : Nat → Rat} {i b : Nat} (h : ord[i]? = some (false, b)) : scaTo f ord pq (i + 1) = scaTo f ord pq i := by
  have ht : ord.take (i + 1) = ord.take i ++ [(false, b)] := by rw [List.take_add_one, h]; rfl
  funext g'
  unfold scaTo
  rw [ht]
  have : ((true, g') ∈ ord.take i ++ [(false, b)]) ↔ (true, g') ∈ ord.take i := by simp
  simp only [this]
/-- What is left to spend, or to be spent on, at first. -/
def lf0 (B : List Int) (pq : Nat → Rat) (x : Nd) : Rat := if x.1 then pq x.2 else ((B.getD x.2 0 : Int) : Rat)
def upd2 (f : Nat → Nat → Rat) (i g : Nat) (q : Rat) : Nat → Nat → Rat := fun i' g' => if i' = i ∧ g' = g then q else f i' g'
/-- From the last node back, c of them. -/
def bkTo (ord : List Nd) (par : Nd → Nd) (lf : Nd → Rat) (sp : Nat → Nat → Rat) : Nat → (Nd → Rat) × (Nat → Nat → Rat)
  | 0 => (lf, sp)
  | c + 1 =>
    let s := bkTo ord par lf sp c
    let x := ord.getD (ord.length - 1 - c) (false, 0)
    (upd s.1 (par x) (s.1 (par x) - s.1 x), upd2 s.2 (if x.1 then (par x).2 else x.2) (if x.1 then x.2 else (par x).2) (s.1 x))
/-- The prices, the spendings and what is left in the end. -/
def compPq (B : List Int) (st : CSt) : Nat → Rat := scaTo (facOf B st) st.ord st.pq st.ord.length
def compBk (B : List Int) (st : CSt) (sp : Nat → Nat → Rat) : (Nd → Rat) × (Nat → Nat → Rat) := bkTo st.ord st.par (lf0 B (compPq B st)) sp (st.ord.length - 1)
def compOk (B : List Int) (st : CSt) (sp : Nat → Nat → Rat) (first : Nat) : Bool := !decide (budOf B st.ord = 0) && decide ((compBk B st sp).1 (true, first) = 0)
/-- The answer. -/
def compB (B : List Int) (V : List (List Int)) (e n k first : Nat) (don : Nd → Bool) (pq : Nat → Rat) (sp : Nat → Nat → Rat) : Option CSt :=
  match compF V e n k first don pq with
  | none => none
  | some st => if compOk B st sp first then some st else none
theorem compB_none {B : List Int} {V : List (List Int)} {e n k first : Nat} {don : Nd → Bool} {pq : Nat → Rat} (sp : Nat → Nat → Rat) {st : CSt} {j : Nat} {x : Nd} {y : Nat}
    (h1 : srchTo V e n (max n k) (start0 don pq first) j = some st) (h2 : st.ord[j]? = some x) (h3 : visitTo V e n j st x y = none) (hy : y ≤ max n k) (hj : j + 1 ≤ 6) : compB B V e n k first don pq sp = none := by
  have h4 : srchTo V e n (max n k) (start0 don pq first) (j + 1) = none := by
    simp only [srchTo, h1, Option.bind_some, h2]
    exact visitTo_none h3 _ hy
  unfold compB compF
  rw [srchTo_none h4 6 hj]
theorem compF_some {V : List (List Int)} {e n k first : Nat} {don : Nd → Bool} {pq : Nat → Rat} {st : CSt} {j : Nat}
    (h1 : srchTo V e n (max n k) (start0 don pq first) j = some st) (hl : st.ord.length ≤ j) (hj : j ≤ 6) : compF V e n k first don pq = some st := srchTo_end h1 hl 6 hj
theorem compB_poor {B : List Int} {V : List (List Int)} {e n k first : Nat} {don : Nd → Bool} {pq : Nat → Rat} (sp : Nat → Nat → Rat) {st : CSt}
    (h1 : compF V e n k first don pq = some st) (h0 : budOf B st.ord = 0) : compB B V e n k first don pq sp = none := by
  unfold compB compOk
  rw [h1]
  simp only [decide_eq_true h0]
  rfl
theorem compB_fin {B : List Int} {V : List (List Int)} {e n k first : Nat} {don : Nd → Bool} {pq : Nat → Rat} (sp : Nat → Nat → Rat) {st : CSt}
    (h1 : compF V e n k first don pq = some st) (h0 : budOf B st.ord ≠ 0) : compB B V e n k first don pq sp = if decide ((compBk B st sp).1 (true, first) = 0) then some st else none := by
  unfold compB compOk
  rw [h1]
  simp only [decide_eq_false h0]
  rfl

/- Contract: valid of package market. -/

theorem validM_bud {B : List Int} {V : List (List Int)} (h : ¬ (1 ≤ B.length ∧ B.length ≤ 3 ∧ (∀ b ∈ B, 1 ≤ b ∧ b ≤ 20) ∧ V.length = B.length)) : validM B V = false := by
  rw [← Bool.not_eq_true, validM_iff]
  rintro ⟨h1, _⟩
  exact h h1
set_option maxRecDepth 100000 in
set_option maxHeartbeats 4000000 in
theorem mvalid_any (A : Option Addr) (n c : Nat) (U : Option Addr) (m d : Nat) (B : List Int) (V : List (List Int)) (w : World) (h : MktAt w A n U m B V) (hn : n ≤ 1000) (hm : m ≤ 1000) (hr : ∀ r ∈ V, r.length ≤ 1000) :
    Calls Try.prog 38 #[mktV A n c U m d] w fun e w' => e = .returned (.bool (validM B V)) ∧ Below w.heap.size w w' := by
  have hb0 : Below w.heap.size w (w.alloc (.cells #[.slice A n c, .slice U m d] 30)) := (Below.refl _ _).alloc (Nat.le_refl _) _
  have h1 := h.below hb0
  have H := Lib.hid (And.intro h1 (And.intro hb0 hr))
  have hbl := h.hB
  have hvl := h.hV
  clear h h1 hb0 hr
  unfold mktV
  by_cases q1 : 1 ≤ n
  · have p1 : decide ((n : Int) < 1) = false := decide_eq_false (by omega)
    by_cases q2 : n ≤ 3
    · have p2 : decide ((3 : Int) < (n : Int)) = false := decide_eq_false (by omega)
      have hne : B ≠ [] := by rintro rfl; simp at hbl; omega
      have hbm := bud_minmax hne
      by_cases q3 : 1 ≤ lmin B
      · have p3 : decide (lmin B < 1) = false := decide_eq_false (by omega)
        by_cases q4 : lmax B ≤ 20
        · have p4 : decide (20 < lmax B) = false := decide_eq_false (by omega)
          by_cases q5 : m = n
          · subst q5
            have hbud : ∀ b ∈ B, 1 ≤ b ∧ b ≤ 20 := by
              rw [decide_eq_true q3, decide_eq_true q4] at hbm
              have := List.all_eq_true.1 hbm
              intro b hb
              have := this b hb
              simpa [budOk] using this
            have p5 : ((m : Int) != (m : Int)) = false := by simp
            obtain ⟨ad, hUe, hub, hc⟩ := H.out.1.uses.some_ (by omega)
            obtain ⟨R0, cr0, c0, _⟩ := hc 0 _ (rowV_some (by omega))
            have c0' : (w.alloc (.cells #[.slice A m c, .slice (some ad) m d] 30)).cell? ad = some (.slice R0 (goodsN V) cr0) := by rw [hUe] at c0; exact c0
            obtain ⟨k, hk⟩ : ∃ k, k = goodsN V := ⟨_, rfl⟩
            rw [← hk] at c0'
            subst hUe
            have HU := Lib.hid (And.intro hc (And.intro hbud hk))
            have hV0 : ∀ kk, validM B V = true → rowOk k (rowV V kk) = true ∨ V.length ≤ kk := by
              intro kk hv
              rcases Nat.lt_or_ge kk V.length with h | h
              · left; rw [hk]; exact (validM_iff.1 hv).2.2.1 _ (List.mem_of_getElem? (rowV_some h))
              · exact .inr h
            have HV0 := Lib.hid hV0
            clear hc hbud hk c0 hbm hne hub hV0
            go_enter Try.func38, Try.ntmps38
            go_wp2_with fail
            refine (min_any A m c B _ hbl (by omega) (by omega) H.out.1.budgets).mono ?_
            rintro e w' ⟨rfl, rfl⟩
            go_wp2_with fail
            refine (max_any A m c B _ hbl (by omega) (by omega) H.out.1.budgets).mono ?_
            rintro e w' ⟨rfl, rfl⟩
            by_cases g1 : 1 ≤ k
            · have p6 : decide ((k : Int) < 1) = false := decide_eq_false (by omega)
              by_cases g2 : k ≤ 3
              · have p7 : decide ((3 : Int) < (k : Int)) = false := decide_eq_false (by omega)
                go_wp2_with fail
                clear p3 p4 p6 p7
                go_loop [50] (fun iv => ∃ j : Nat, j ≤ m ∧ iv = .int .i64 j ∧ (V.take j).all (rowOk k) = true) (fun iv => m - (intOf iv).toNat)
                case atStart => exact ⟨0, Nat.zero_le _, rfl, by simp⟩
                case round =>
                  obtain ⟨j, hj, rfl, ha⟩ := hrel
                  have HA := Lib.hid ha
                  clear ha
                  by_cases hlt : j < m
                  · obtain ⟨R, cr, c1, _, _, hR⟩ := HU.out.1 j _ (rowV_some (by omega))
                    have hrow := rowV_some (V := V) (i := j) (by omega)
                    have hrl := H.out.2.2 _ (List.mem_of_getElem? hrow)
                    obtain ⟨rl, hrle⟩ : ∃ rl, rl = (rowV V j).length := ⟨_, rfl⟩
                    rw [← hrle] at c1 hrl
                    have HX := Lib.hid (And.intro hrow (And.intro hrle hR))
                    clear hrow hrle hR
                    by_cases r1 : rl = k
                    · subst r1
                      have hro := rowOk_minmax g1 HX.out.2.1.symm
                      have s1 : ((rl : Int) != (rl : Int)) = false := by simp
                      by_cases r2 : 0 ≤ lmin (rowV V j)
                      · have s2 : decide (lmin (rowV V j) < 0) = false := decide_eq_false (by omega)
                        by_cases r3 : lmax (rowV V j) ≤ 20
                        · have s3 : decide (20 < lmax (rowV V j)) = false := decide_eq_false (by omega)
                          cases r4 : (lmax (rowV V j) == 0)
                          · have HN : Hid ((V.take (j + 1)).all (rowOk rl) = true) := Lib.hid (all_take_s HX.out.1 HA.out (by rw [hro, decide_eq_true r2, decide_eq_true r3, bne, r4]; rfl))
                            clear hro
                            go_wp2_with fail
                            refine (min_any R rl cr (rowV V j) _ HX.out.2.1.symm (by omega) (by omega) HX.out.2.2).mono ?_
                            rintro e w' ⟨rfl, rfl⟩
                            go_wp2_with fail
                            refine (max_any R rl cr (rowV V j) _ HX.out.2.1.symm (by omega) (by omega) HX.out.2.2).mono ?_
                            rintro e w' ⟨rfl, rfl⟩
                            go_wp2_with fail
                            refine (max_any R rl cr (rowV V j) _ HX.out.2.1.symm (by omega) (by omega) HX.out.2.2).mono ?_
                            rintro e w' ⟨rfl, rfl⟩
                            go_wp2_with fail
                            go_round
                            case rel => exact ⟨j + 1, by omega, by go_num, HN.out⟩
                            case measure => simp [intOf]; omega
                          · have HF : Hid (validM B V = false) := Lib.hid (by
                              rw [← Bool.not_eq_true]; intro hv
                              rcases HV0.out j hv with h | h
                              · rw [hro, bne, r4] at h; simp at h
                              · omega)
                            clear hro
                            go_wp2_with fail
                            refine (min_any R rl cr (rowV V j) _ HX.out.2.1.symm (by omega) (by omega) HX.out.2.2).mono ?_
                            rintro e w' ⟨rfl, rfl⟩
                            go_wp2_with fail
                            refine (max_any R rl cr (rowV V j) _ HX.out.2.1.symm (by omega) (by omega) HX.out.2.2).mono ?_
                            rintro e w' ⟨rfl, rfl⟩
                            go_wp2_with fail
                            refine (max_any R rl cr (rowV V j) _ HX.out.2.1.symm (by omega) (by omega) HX.out.2.2).mono ?_
                            rintro e w' ⟨rfl, rfl⟩
                            go_wp2_with fail
                            go_ret
                            exact ⟨ret_bool HF.out.symm, H.out.2.1⟩
                        · have s3 : decide (20 < lmax (rowV V j)) = true := decide_eq_true (by omega)
                          have HF : Hid (validM B V = false) := Lib.hid (by
                            rw [← Bool.not_eq_true]; intro hv
                            rcases HV0.out j hv with h | h
                            · rw [hro, decide_eq_false r3] at h; simp at h
                            · omega)
                          clear hro
                          go_wp2_with fail
                          refine (min_any R rl cr (rowV V j) _ HX.out.2.1.symm (by omega) (by omega) HX.out.2.2).mono ?_
                          rintro e w' ⟨rfl, rfl⟩
                          go_wp2_with fail
                          refine (max_any R rl cr (rowV V j) _ HX.out.2.1.symm (by omega) (by omega) HX.out.2.2).mono ?_
                          rintro e w' ⟨rfl, rfl⟩
                          go_wp2_with fail
                          go_ret
                          exact ⟨ret_bool HF.out.symm, H.out.2.1⟩
                      · have s2 : decide (lmin (rowV V j) < 0) = true := decide_eq_true (by omega)
                        have HF : Hid (validM B V = false) := Lib.hid (by
                          rw [← Bool.not_eq_true]; intro hv
                          rcases HV0.out j hv with h | h
                          · rw [hro, decide_eq_false r2] at h; simp at h
                          · omega)
                        clear hro
                        go_wp2_with fail
                        refine (min_any R rl cr (rowV V j) _ HX.out.2.1.symm (by omega) (by omega) HX.out.2.2).mono ?_
                        rintro e w' ⟨rfl, rfl⟩
                        go_wp2_with fail
                        go_ret
                        exact ⟨ret_bool HF.out.symm, H.out.2.1⟩
                    · have s1 : ((rl : Int) != (k : Int)) = true := by rw [bne_iff_ne]; omega
                      have HF : Hid (validM B V = false) := Lib.hid (by
                        rw [← Bool.not_eq_true]; intro hv
                        rcases HV0.out j hv with h | h
                        · have := (rowOk_iff.1 h).1; have := HX.out.2.1; omega
                        · omega)
                      go_wp2_with fail
                      go_ret
                      exact ⟨ret_bool HF.out.symm, H.out.2.1⟩
                  · obtain rfl : m = j := by omega
                    have hall : V.all (rowOk k) = true := by have h := HA.out; rwa [List.take_of_length_le (by omega)] at h
                    have HA2 := Lib.hid hall
                    clear hall
                    go_wp2_with fail
                    go_loopw [75] (fun iv wr => ∃ g : Nat, g ≤ k ∧ iv = .int .i64 g ∧ (∀ x, x < g → wanted V x = true) ∧ Below (w.heap.size + 1) (w.alloc (.cells #[.slice A m c, .slice (some ad) m d] 30)) wr) (fun iv _ => k - (intOf iv).toNat)
                    case atStart => exact ⟨0, Nat.zero_le _, rfl, fun x hx => by omega, Below.refl _ _⟩
                    case round =>
                      obtain ⟨g, hg, rfl, hx, hb⟩ := hrel
                      have hB0 : Blk wr w.heap.size 30 #[.slice A m c, .slice (some ad) m d] := (Blk.new w _ _ rfl).below hb (by omega)
                      have hsz : w.heap.size + 1 ≤ wr.heap.size := by have := hb.size; simpa using this
                      have hbw : Below w.heap.size w wr := H.out.2.1.trans (hb.mono (by simp))
                      have hM : Mat wr (some ad) V := (H.out.1.uses).below (by have := hb; rwa [show w.heap.size + 1 = (w.alloc (.cells #[.slice A m c, .slice (some ad) m d] 30)).heap.size from by simp] at this)
                      obtain ⟨e0, e1, _, _⟩ := hB0.at2
                      by_cases hlg : g < k
                      · have hrl : ∀ r ∈ V, r.length = k := fun r hr => (rowOk_iff.1 (List.all_eq_true.1 HA2.out r hr)).1
                        have hb2 : Below wr.heap.size wr (wr.alloc (.cells #[.int .i64 g] 3)) := (Below.refl _ _).alloc (Nat.le_refl _) _
                        have hC := containsM_any (some ad) m d k V wr.heap.size g (wr.alloc (.cells #[.int .i64 g] 3)) hvl (by omega) hrl hlg (hM.below hb2) (by simp)
                        obtain ⟨_, e1', _, _⟩ := (hB0.alloc (.cells #[.int .i64 g] 3)).at2
                        have HC := Lib.hid (And.intro hC (And.intro hx (And.intro (hbw.trans (hb2.mono (by omega))) (hb.trans (hb2.mono hsz)))))
                        clear hC hx hbw hb hb2 hrl hM hB0
                        go_wp2_with fail
                        refine HC.out.1.mono ?_
                        rintro e w' ⟨rfl, rfl⟩
                        cases hwt : wanted V g
                        · have HF : Hid (validM B V = false) := Lib.hid (by
                            rw [← Bool.not_eq_true]; intro hv
                            have := (validM_iff.1 hv).2.2.2 g (by rw [← HU.out.2.2]; exact hlg)
                            rw [hwt] at this
                            cases this)
                          clear hwt
                          go_wp2_with fail
                          go_ret
                          exact ⟨ret_bool HF.out.symm, HC.out.2.2.1⟩
                        · have HN : Hid (∀ x, x < g + 1 → wanted V x = true) := Lib.hid fun x hx => by
                            rcases Nat.lt_or_ge x g with h | h
                            · exact HC.out.2.1 x h
                            · rw [show x = g by omega]; exact hwt
                          clear hwt
                          go_wp2_with fail
                          go_roundw
                          case rel => exact ⟨g + 1, by omega, by go_num, HN.out, HC.out.2.2.2⟩
                          case measure => simp [intOf]; omega
                      · obtain rfl : g = k := by omega
                        have HV : Hid (validM B V = true) := Lib.hid (validM_iff.2 ⟨⟨by omega, by omega, HU.out.2.1, by omega⟩, ⟨by rw [← HU.out.2.2]; exact g1, by rw [← HU.out.2.2]; exact g2⟩, fun r hr => by
                          have := List.all_eq_true.1 HA2.out r hr
                          rwa [HU.out.2.2] at this, fun x hx' => hx x (by rw [HU.out.2.2]; exact hx')⟩)
                        have HB := Lib.hid hbw
                        clear hx hb hbw hM hB0
                        go_wp2_with fail
                        go_ret
                        exact ⟨ret_bool HV.out.symm, HB.out⟩
              · have p7 : decide ((3 : Int) < (k : Int)) = true := decide_eq_true (by omega)
                have HF : Hid (validM B V = false) := Lib.hid (by
                  rw [← Bool.not_eq_true]; intro hv
                  have := (validM_iff.1 hv).2.1.2; have := HU.out.2.2; omega)
                go_wp2_with fail
                go_ret
                exact ⟨ret_bool HF.out.symm, H.out.2.1⟩
            · have p6 : decide ((k : Int) < 1) = true := decide_eq_true (by omega)
              have HF : Hid (validM B V = false) := Lib.hid (by
                rw [← Bool.not_eq_true]; intro hv
                have := (validM_iff.1 hv).2.1.1; have := HU.out.2.2; omega)
              go_wp2_with fail
              go_ret
              exact ⟨ret_bool HF.out.symm, H.out.2.1⟩
          · have p5 : ((m : Int) != (n : Int)) = true := by rw [bne_iff_ne]; omega
            have HF := Lib.hid (validM_bud (B := B) (V := V) fun h => by omega)
            clear hbm hne
            go_enter Try.func38, Try.ntmps38
            go_wp2_with fail
            refine (min_any A n c B _ hbl (by omega) (by omega) H.out.1.budgets).mono ?_
            rintro e w' ⟨rfl, rfl⟩
            go_wp2_with fail
            refine (max_any A n c B _ hbl (by omega) (by omega) H.out.1.budgets).mono ?_
            rintro e w' ⟨rfl, rfl⟩
            go_wp2_with fail
            go_ret
            exact ⟨ret_bool HF.out.symm, H.out.2.1⟩
        · have p4 : decide (20 < lmax B) = true := decide_eq_true (by omega)
          have HF := Lib.hid (validM_bud (B := B) (V := V) fun h => q4 ((lmax_le hne 20).2 fun x hx => (h.2.2.1 x hx).2))
          clear hbm hne
          go_enter Try.func38, Try.ntmps38
          go_wp2_with fail
          refine (min_any A n c B _ hbl (by omega) (by omega) H.out.1.budgets).mono ?_
          rintro e w' ⟨rfl, rfl⟩
          go_wp2_with fail
          refine (max_any A n c B _ hbl (by omega) (by omega) H.out.1.budgets).mono ?_
          rintro e w' ⟨rfl, rfl⟩
          go_wp2_with fail
          go_ret
          exact ⟨ret_bool HF.out.symm, H.out.2.1⟩
      · have p3 : decide (lmin B < 1) = true := decide_eq_true (by omega)
        have HF := Lib.hid (validM_bud (B := B) (V := V) fun h => q3 ((lmin_ge hne 1).2 fun x hx => (h.2.2.1 x hx).1))
        clear hbm hne
        go_enter Try.func38, Try.ntmps38
        go_wp2_with fail
        refine (min_any A n c B _ hbl (by omega) (by omega) H.out.1.budgets).mono ?_
        rintro e w' ⟨rfl, rfl⟩
        go_wp2_with fail
        go_ret
        exact ⟨ret_bool HF.out.symm, H.out.2.1⟩
    · have p2 : decide ((3 : Int) < (n : Int)) = true := decide_eq_true (by omega)
      have HF := Lib.hid (validM_bud (B := B) (V := V) fun h => by omega)
      go_enter Try.func38, Try.ntmps38
      go_wp2_with fail
      go_ret
      exact ⟨ret_bool HF.out.symm, H.out.2.1⟩
  · have p1 : decide ((n : Int) < 1) = true := decide_eq_true (by omega)
    have HF := Lib.hid (validM_bud (B := B) (V := V) fun h => by omega)
    go_enter Try.func38, Try.ntmps38
    go_wp2_with fail
    go_ret
    exact ⟨ret_bool HF.out.symm, H.out.2.1⟩

/- Which edges a number holds. -/

theorem mhas_any (A : Option Addr) (n c : Nat) (U : Option Addr) (m d : Nat) (B : List Int) (V : List (List Int)) (e i g : Nat) (w : World) (h : MktAt w A n U m B V) (hm : 1 ≤ m) (he : e < 512) (hi : i < 3) (hg : g < 3) (hG : goodsN V ≤ 3) :
    Calls Try.prog 73 #[mktV A n c U m d, .int .i64 (e : Int), .int .i64 (i : Int), .int .i64 (g : Int)] w fun x w' => x = .returned (.bool (e.testBit (i * goodsN V + g))) ∧ Below w.heap.size w w' := by
  have b0 : Below w.heap.size w (w.alloc (.cells #[.slice A n c, .slice U m d] 30)) := (Below.refl _ _).alloc (Nat.le_refl _) _
  have HG := Lib.hid (mgoods_any A n c U m d B V _ (h.below b0) hm)
  obtain ⟨P, hP, hP2⟩ : ∃ P : Nat, (P : Int) = (i : Int) * (goodsN V : Int) ∧ P = i * goodsN V := ⟨i * goodsN V, by push_cast; rfl, rfl⟩
  obtain ⟨J, hJ, hJ2⟩ : ∃ J : Nat, (J : Int) = (P : Int) + (g : Int) ∧ J = P + g := ⟨P + g, by omega, rfl⟩
  have hPb : P ≤ 6 := by rw [hP2]; have := Nat.mul_le_mul (show i ≤ 2 by omega) hG; omega
  have hJb : J < 9 := by omega
  have hPw : (i : Int) * (goodsN V : Int) = (P : Int) := hP.symm
  have hJw : (P : Int) + (g : Int) = (J : Int) := hJ.symm
  have HT := Lib.hid (and_shr e J (by omega))
  have B0 := Lib.hid b0
  rw [← hP2, ← hJ2]
  have HE := Lib.hid he
  have HI := Lib.hid hi
  have HGB := Lib.hid hG
  clear hP hP2 hJ hJ2 h b0 he hi hG
  unfold mktV at HG ⊢
  go_enter Try.func73, Try.ntmps73
  go_wp2_with fail
  refine HG.out.mono ?_
  rintro x w1 ⟨rfl, hb1⟩
  have HB1 := Lib.hid hb1
  clear hb1
  go_wp2_with fail
  go_ret
  refine ⟨?_, B0.out.trans (HB1.out.mono B0.out.size)⟩
  cases hb : e.testBit J
  · rw [and_shr_f (by have := HE.out; omega) hb]; rfl
  · rw [and_shr_t (by have := HE.out; omega) hb]; rfl

/- The laws of append of the text before, as laws of a walk. -/

theorem freshN {T e : TypeId} {z : Value} {size bytes : Nat} (ty : STy T e z size bytes) {ops : Array Oper} {rest : List Oper} {o : Oper} {a : Act} {Q : Exit → Act → World → Prop} {w : World}
    (hgd : o.guard = none) (s x : Operand) (ho : o.op = .call { callee := .builtin .append, args := #[s, x], argTypes := #[T, T] })
    (A : Option Addr) (n : Nat) (olds : List Value) (hlo : olds.length = n * size) (hA : At w A olds) (h0 : A = none → n = 0) (hd : n ≠ 0 → ∃ ad, A = some ad)
    (ad : Addr) (m c : Nat) (news : List Value) (hl : news.length = m * size) (hnews : ∀ j u, news[j]? = some u → w.cell? (ad.add j) = some u)
    (hs : a.eval s = .slice A n n) (hx : a.eval x = .slice (some ad) m c) (hm : 0 < m) (hn : n + m ≤ 1000000)
    (h : ∀ (k' : Nat) (w' : World), w'.ownsRow w.heap.size e size (.slice (some ⟨w.heap.size, 0, none⟩) (n + m) k') (n + m) (olds ++ news) → Below w.heap.size w w' → n + m ≤ k' → k' ≤ 9223372036854775807 →
      wpList Try.prog ops Q rest (a.put o.dst (.slice (some ⟨w.heap.size, 0, none⟩) (n + m) k')) w') : wpList Try.prog ops Q (o :: rest) a w :=
  wpList_plain hgd fun _ hK => wp_fresh ty s x ho A n olds hlo hA h0 hd ad m c news hl hnews hs hx hm hn fun k' w' a1 a2 a3 a4 => hK _ _ (h k' w' a1 a2 a3 a4)

/-- One element, whose block's number is spelled in some way. -/
theorem app1h {T e : TypeId} {z : Value} {size bytes : Nat} (ty : STy T e z size bytes) {ops : Array Oper} {rest : List Oper} {o : Oper} {a : Act} {Q : Exit → Act → World → Prop} {w : World}
    (hgd : o.guard = none) (s x : Operand) (ho : o.op = .call { callee := .builtin .append, args := #[s, x], argTypes := #[T, T] })
    (base : Nat) (A : Option Addr) (n k : Nat) (xs : List Value) (cs : Array Value) (hcs : cs.size = size) (h1 : ∀ u ∈ cs.toList, u.oneCell' = true)
    (hs : a.eval s = .slice A n k) (hown : w.ownsRow base e size (.slice A n k) n xs) (g : Nat) (hx : a.eval x = .slice (some ⟨g, 0, none⟩) 1 1) (hg : g = w.heap.size)
    (hn : n ≤ 1000000) (hb : base ≤ w.heap.size)
    (h : ∀ (A' : Option Addr) (k' : Nat) (w' : World), w'.ownsRow base e size (.slice A' (n + 1) k') (n + 1) (xs ++ cs.toList) → w.grownBy w' (Value.slice A n k).ownBlock → Below base w w' → n + 1 ≤ k' → k' ≤ 9223372036854775807 →
      wpList Try.prog ops Q rest (a.put o.dst (.slice A' (n + 1) k')) w') : wpList Try.prog ops Q (o :: rest) a (w.alloc (.cells cs e)) := by
  subst hg
  exact app1 ty hgd s x ho base A n k xs cs hcs h1 hs hown hx hn hb h
/-- Any elements, also none of nil, to an owned slice. -/
theorem appN {T e : TypeId} {z : Value} {size bytes : Nat} (ty : STy T e z size bytes) {ops : Array Oper} {rest : List Oper} {o : Oper} {a : Act} {Q : Exit → Act → World → Prop} {w : World}
    (hgd : o.guard = none) (s x : Operand) (ho : o.op = .call { callee := .builtin .append, args := #[s, x], argTypes := #[T, T] })
    (base : Nat) (A : Option Addr) (n k : Nat) (xs : List Value)
    (hs : a.eval s = .slice A n k) (hown : w.ownsRow base e size (.slice A n k) n xs)
    (B : Option Addr) (m c : Nat) (news : List Value) (hB : B = none → m = 0 ∧ c = 0) (hl : news.length = m * size) (hnews : At w B news) (h1 : ∀ u ∈ news, u.oneCell' = true) (hx : a.eval x = .slice B m c)
    (hn : n + m ≤ 1000000) (hb : base ≤ w.heap.size)
    (h : ∀ (A' : Option Addr) (k' : Nat) (w' : World), w'.ownsRow base e size (.slice A' (n + m) k') (n + m) (xs ++ news) → w.grownBy w' (Value.slice A n k).ownBlock → Below base w w' → n + m ≤ k' → k' ≤ 9223372036854775807 →
      wpList Try.prog ops Q rest (a.put o.dst (.slice A' (n + m) k')) w') : wpList Try.prog ops Q (o :: rest) a w := by
  cases B with
  | none =>
    obtain ⟨rfl, rfl⟩ := hB rfl
    obtain rfl : news = [] := List.eq_nil_of_length_eq_zero (by simpa using hl)
    obtain ⟨i0, hi, _, hz1, _⟩ := info_parts ty.inf
    subst hz1
    refine wpList_append_own_none hgd s x T ho base e i0 i0.size ty.ht hi (.slice A n k) n xs hs (by simpa using hown) hx ?_
    obtain ⟨_, _, he, h3, h4, _⟩ := own_form hown
    injection he with _ _ he
    subst he
    exact h A k w (by simpa using hown) ⟨rfl, rfl, rfl, Nat.le_refl _, fun _ _ _ => rfl⟩ (Below.refl _ _) (by omega) h4
  | some ad => exact wpList_plain hgd fun _ hK => wp_appN ty s x ho base A n k xs hs hown ad m c news hl (At.some2 hnews) h1 hx hn hb fun A' k' w' a1 a2 a3 a4 a5 => hK _ _ (h A' k' w' a1 a2 a3 a4 a5)
end Go.Proofs.Ytnljnjnmhbkdoaa
