/- Laws and contracts that the proof of TopMiddle uses, part 2. -/
import Derived.Test.YtpoibiakfjkebaaMidLaw
import Derived.Test.YtpoibiakfjkebaaTopMiddleM1
import Derived.Laws.BitsAllLaws
import Derived.Laws.BitsLemmas
import Derived.RangeFuncBox
import Derived.RangeFuncBound
import Derived.Shelf.RegionOpen
import Derived.RangeFuncLeaves
import Derived.RangeFuncCalls
import Derived.Shelf.Abstract
import Derived.OwnWalkIn
import Derived.TacticsInMore
import Derived.LoopNIn
import Derived.LoopIn
import Derived.Deep.LoopGhost
import Derived.Deep.DeepCutAuto
namespace Go.Proofs.Ytpoibiakfjkebaa
open Go.RowKit

/- When a list is an order of n candidates, and when ballots are valid: plain Lean. -/

/-- The program's way: all are met. -/
def ordVgo (n : Nat) : Nat → List Int → Bool
  | set, [] => decide (set = 2 ^ n - 1)
  | set, x :: l => if x < 0 ∨ (n : Int) ≤ x then false else ordVgo n (set ||| 2 ^ x.toNat) l
def ordV (n : Nat) (l : List Int) : Bool := ordVgo n 0 l && decide (l.length = n)
theorem ordVgo_bad {n met : Nat} {x : Int} {l : List Int} (h : x < 0 ∨ (n : Int) ≤ x) : ordVgo n met (x :: l) = false := by
  rw [ordVgo, if_pos (by omega)]
theorem ordVgo_on {n met y : Nat} {l : List Int} (hy : y < n) : ordVgo n met ((y : Int) :: l) = ordVgo n (met ||| 2 ^ y) l := by
  rw [ordVgo, if_neg (by omega)]
  simp
/-- Natural numbers as a list of ints. -/
def intL (b : List Nat) : List Int := b.map Int.ofNat
theorem intL_length (b : List Nat) : (intL b).length = b.length := by simp [intL]
theorem intL_get (b : List Nat) (i : Nat) : (intL b)[i]? = (b[i]?).map (fun x => ((x : Nat) : Int)) := by simp [intL]; rfl
theorem intL_some {b : List Nat} {i x : Nat} (h : b[i]? = some x) : (intL b)[i]? = some (x : Int) := by rw [intL_get, h]; rfl
theorem ordVgo_nat {n : Nat} : ∀ {l : List Int} {met : Nat}, ordVgo n met l = true → ∃ b : List Nat, l = intL b ∧ (∀ x ∈ b, x < n) ∧ ∀ i, i < n → met.testBit i = true ∨ i ∈ b := by
  intro l
  induction l with
  | nil =>
    intro met h
    rw [ordVgo, decide_eq_true_eq] at h
    exact ⟨[], rfl, by simp, fun i hi => .inl (by rw [h, Nat.testBit_two_pow_sub_one]; exact decide_eq_true hi)⟩
  | cons x l ih =>
    intro met h
    by_cases hx : x < 0 ∨ (n : Int) ≤ x
    · rw [ordVgo_bad hx] at h; cases h
    · obtain ⟨y, rfl⟩ := Int.eq_ofNat_of_zero_le (show 0 ≤ x by omega)
      have hy : y < n := by omega
      rw [ordVgo_on hy] at h
      obtain ⟨b, rfl, h1, h2⟩ := ih h
      refine ⟨y :: b, rfl, fun z hz => ?_, fun i hi => ?_⟩
      · rcases List.mem_cons.1 hz with rfl | hz
        · exact hy
        · exact h1 z hz
      · rcases h2 i hi with h3 | h3
        · rw [Nat.testBit_or, Nat.testBit_two_pow] at h3
          by_cases e : y = i
          · exact .inr (by rw [e]; exact List.mem_cons_self)
          · left; simpa [e] using h3
        · exact .inr (List.mem_cons_of_mem _ h3)
theorem ordV_odr {n : Nat} {l : List Int} (h : ordV n l = true) : ∃ b : List Nat, l = intL b ∧ Mid.Odr n b := by
  unfold ordV at h
  rw [Bool.and_eq_true, decide_eq_true_eq] at h
  obtain ⟨b, rfl, h1, h2⟩ := ordVgo_nat h.1
  have hl : b.length = n := by rw [← h.2, intL_length]
  have hm : ∀ i, i < n → i ∈ b := fun i hi => (h2 i hi).resolve_left (by simp)
  refine ⟨b, rfl, hl, ?_, fun x => ⟨h1 x, hm x⟩⟩
  exact Mid.nodup_of hl hm
/-- Ballots that are valid. -/
def valB (V : List (List Int)) : Bool := decide (1 ≤ V.length) && decide (V.length ≤ 9) && (decide (1 ≤ (rowV V 0).length) && decide ((rowV V 0).length ≤ 5)) && V.all (ordV (rowV V 0).length)
/-- Ballots as lists of natural numbers. -/
structure Blts (V : List (List Int)) (n : Nat) (B : List (List Nat)) : Prop where
  eq : V = B.map intL
  hn : 1 ≤ n ∧ n ≤ 5
  hB : 1 ≤ B.length ∧ B.length ≤ 9
  odr : ∀ b ∈ B, Mid.Odr n b
theorem all_nat {n : Nat} : ∀ {V : List (List Int)}, V.all (ordV n) = true → ∃ B : List (List Nat), V = B.map intL ∧ ∀ b ∈ B, Mid.Odr n b := by
  intro V
  induction V with
  | nil => intro _; exact ⟨[], rfl, by simp⟩
  | cons r V ih =>
    intro h
    rw [List.all_cons, Bool.and_eq_true] at h
    obtain ⟨b, rfl, hb⟩ := ordV_odr h.1
    obtain ⟨B, rfl, hB⟩ := ih h.2
    exact ⟨b :: B, rfl, fun c hc => by
      rcases List.mem_cons.1 hc with rfl | hc
      · exact hb
      · exact hB c hc⟩
theorem valB_blts {V : List (List Int)} (h : valB V = true) : ∃ n B, n = (rowV V 0).length ∧ Blts V n B := by
  unfold valB at h
  simp only [Bool.and_eq_true, decide_eq_true_eq] at h
  obtain ⟨B, hV, hB⟩ := all_nat h.2
  have hl : V.length = B.length := by rw [hV, List.length_map]
  exact ⟨_, B, rfl, hV, h.1.2, by omega, hB⟩
section
variable {V : List (List Int)} {n : Nat} {B : List (List Nat)}
theorem Blts.len (h : Blts V n B) : V.length = B.length := by rw [h.eq, List.length_map]
theorem Blts.get (h : Blts V n B) {i : Nat} (hi : i < B.length) : V[i]? = some (intL (B.getD i [])) := by
  rw [h.eq, List.getElem?_map, List.getD_eq_getElem?_getD, List.getElem?_eq_getElem hi]; rfl
theorem Blts.at_ (h : Blts V n B) {i : Nat} (hi : i < B.length) : Mid.Odr n (B.getD i []) := h.odr _ (by rw [List.getD_eq_getElem?_getD, List.getElem?_eq_getElem hi]; exact List.getElem_mem hi)
theorem Blts.row0 (h : Blts V n B) : (rowV V 0).length = n := by
  have h0 := h.hB.1
  rw [rowV_get (h.get h0), intL_length]; exact (h.at_ h0).len
end

/- Bits of sets of at most a few players, as the walk writes them. No program. -/

theorem ofInt_i64 (a : Nat) (ha : a < 9223372036854775808) : (BitVec.ofInt 64 (a : Int)).toNat = a := by
  rw [BitVec.ofInt_natCast, BitVec.toNat_ofNat]; exact Nat.mod_eq_of_lt (by omega)
theorem and_nat (a b : Nat) (ha : a < 9223372036854775808) (hb : b < 9223372036854775808) : bits .and .i64 (a : Int) (b : Int) = ((a &&& b : Nat) : Int) := by
  have hx : a &&& b < 2 ^ 63 := Nat.and_lt_two_pow _ (by omega)
  show IntKind.i64.wrap ((BitVec.ofInt 64 (a : Int) &&& BitVec.ofInt 64 (b : Int)).toNat : Int) = _
  rw [BitVec.toNat_and, ofInt_i64 a ha, ofInt_i64 b hb, IntKind.wrap_i64]
  omega
theorem or_nat (a b : Nat) (ha : a < 9223372036854775808) (hb : b < 9223372036854775808) : bits .or .i64 (a : Int) (b : Int) = ((a ||| b : Nat) : Int) := by
  have hx : a ||| b < 2 ^ 63 := Nat.or_lt_two_pow (by omega) (by omega)
  show IntKind.i64.wrap ((BitVec.ofInt 64 (a : Int) ||| BitVec.ofInt 64 (b : Int)).toNat : Int) = _
  rw [BitVec.toNat_or, ofInt_i64 a ha, ofInt_i64 b hb, IntKind.wrap_i64]
  omega
theorem pow_wrap (x : Nat) (hx : x < 16) : IntKind.i64.wrap ((2 : Int) ^ x) = ((2 ^ x : Nat) : Int) := by
  have : ∀ x : Fin 16, IntKind.i64.wrap ((2 : Int) ^ x.val) = ((2 ^ x.val : Nat) : Int) := by decide +kernel
  exact this ⟨x, hx⟩
theorem pow_lt {x : Nat} (hx : x < 16) : 2 ^ x < 65536 := by
  have : ∀ x : Fin 16, 2 ^ x.val < 65536 := by decide +kernel
  exact this ⟨x, hx⟩
theorem wrapEq (x : Int) : IntKind.i64.wrap x = wrap64 x := by unfold wrap64; rw [IntKind.wrap_i64]
/-- 'set | 1 << x', in the two spellings of the walk. -/
theorem or_pow (set x : Nat) (hs : set < 65536) (hx : x < 16) : bits .or .i64 (set : Int) (IntKind.i64.wrap ((2 : Int) ^ x)) = ((set ||| 2 ^ x : Nat) : Int) := by
  have := pow_lt hx
  rw [pow_wrap x hx, or_nat _ _ (by omega) (by omega)]
theorem or_pow' (set x : Nat) (hs : set < 65536) (hx : x < 16) : bits .or .i64 (set : Int) (wrap64 ((2 : Int) ^ x)) = ((set ||| 2 ^ x : Nat) : Int) := by
  rw [← wrapEq]; exact or_pow set x hs hx
/-- 'set >> k & 1', as the walk writes it. -/
theorem and_shr (set k : Nat) (h : set < 9223372036854775808) : bits .and .i64 ((set : Int) / 2 ^ k) 1 = ((if set.testBit k then 1 else 0 : Nat) : Int) := by
  have e : ((set : Int) / 2 ^ k) = ((set / 2 ^ k : Nat) : Int) := by simp
  have hle : set / 2 ^ k ≤ set := Nat.div_le_self _ _
  have e1 : (1 : Int) = ((1 : Nat) : Int) := rfl
  rw [e, e1, and_nat _ _ (by omega) (by omega), Nat.and_one_is_mod, Nat.testBit_eq_decide_div_mod_eq]
  have : set / 2 ^ k % 2 < 2 := Nat.mod_lt _ (by omega)
  by_cases h1 : set / 2 ^ k % 2 = 1
  · simp [h1]
  · have h0 : set / 2 ^ k % 2 = 0 := by omega
    simp [h0]
theorem and_shr_t {set k : Nat} (h : set < 9223372036854775808) (ht : set.testBit k = true) : (bits .and .i64 ((set : Int) / 2 ^ k) 1 == 1) = true := by
  rw [and_shr set k h, ht]; rfl
theorem and_shr_f {set k : Nat} (h : set < 9223372036854775808) (ht : set.testBit k = false) : (bits .and .i64 ((set : Int) / 2 ^ k) 1 == 1) = false := by
  rw [and_shr set k h, ht]; rfl
theorem or_pow_lt {set x n : Nat} (hs : set < 2 ^ n) (hx : x < n) : set ||| 2 ^ x < 2 ^ n := Nat.or_lt_two_pow hs (Nat.pow_lt_pow_right (by omega) hx)

/- Contracts: isOrder, names and valid of package vote. -/

theorem vdrop_cons {α : Type} {l : List α} {k : Nat} {x : α} (h : l[k]? = some x) : l.drop k = x :: l.drop (k + 1) := by
  obtain ⟨hk, he⟩ := List.getElem?_eq_some_iff.1 h
  rw [List.drop_eq_getElem_cons hk, he]

set_option maxHeartbeats 800000 in
theorem visorder_any (A : Option Addr) (m cap : Nat) (l : List Int) (n : Nat) (w : World) (hl : l.length = m) (hm : m ≤ 9223372036854775807) (hn : n ≤ 5) (h : Ints w A l) :
    Calls Try.prog 26 #[.slice A m cap, .int .i64 n] w fun e w' => e = .returned (.bool (ordV n l)) ∧ w = w' := by
  have hI := fun (hp : 0 < l.length) => h.some_ hp
  have H := Lib.hid (And.intro hl hI)
  have hpw : IntKind.i64.wrap ((2 : Int) ^ n) = ((2 ^ n : Nat) : Int) := pow_wrap n (by omega)
  have hp32 : 1 ≤ 2 ^ n ∧ 2 ^ n ≤ 32 := ⟨Nat.pos_of_neZero _, by have := Nat.pow_le_pow_right (show 0 < 2 by omega) hn; simpa using this⟩
  obtain ⟨P, hP⟩ : ∃ P, P = 2 ^ n := ⟨_, rfl⟩
  rw [← hP] at hpw hp32
  have HPE := Lib.hid hP
  clear hl h hI hP
  go_enter Try.func26, Try.ntmps26
  go_wp2_with fail
  go_loop [5, 10] (fun s i => ∃ k met : Nat, k ≤ m ∧ i = .int .i64 k ∧ s = .int .i64 met ∧ met < 2 ^ n ∧ ordVgo n 0 l = ordVgo n met (l.drop k)) (fun _ i => m - (intOf i).toNat)
  case atStart => exact ⟨0, 0, Nat.zero_le _, rfl, rfl, Nat.pos_of_neZero _, rfl⟩
  case round =>
    obtain ⟨k, met, hk, rfl, rfl, hb, hg⟩ := hrel
    have HG := Lib.hid (And.intro hg hb)
    have hb16 : met < 32 := by rw [← HPE.out] at hb; omega
    clear hg hb
    by_cases hlt : k < m
    · obtain ⟨hl, hI⟩ := H.out
      obtain ⟨ad, rfl, _, hc⟩ := hI (by omega)
      obtain ⟨x, hx⟩ : ∃ x, l[k]? = some x := ⟨_, List.getElem?_eq_getElem (by omega)⟩
      have hcell := hc k x hx
      have HD := Lib.hid (vdrop_cons hx)
      have l1 : (k : Int) < (m : Int) := by omega
      clear hl hI hc hx
      by_cases h1 : x < 0
      · have HR : Hid (ordV n l = false) := Lib.hid (by unfold ordV; rw [HG.out.1, HD.out, ordVgo_bad (.inl h1)]; rfl)
        go_wp2_with fail
        go_ret
        exact ⟨ret_bool HR.out.symm, rfl⟩
      · by_cases h2 : (n : Int) ≤ x
        · have HR : Hid (ordV n l = false) := Lib.hid (by unfold ordV; rw [HG.out.1, HD.out, ordVgo_bad (.inr h2)]; rfl)
          go_wp2_with fail
          go_ret
          exact ⟨ret_bool HR.out.symm, rfl⟩
        · obtain ⟨y, rfl⟩ := Int.eq_ofNat_of_zero_le (show 0 ≤ x by omega)
          have hy : y < n := by omega
          have hy4 : y < 5 := by omega
          have e1 := or_pow met y (by omega) (by omega)
          have e2 := or_pow' met y (by omega) (by omega)
          obtain ⟨s', hs'⟩ : ∃ s', s' = met ||| 2 ^ y := ⟨_, rfl⟩
          rw [← hs'] at e1 e2
          have HN : Hid (s' < 2 ^ n ∧ ordVgo n 0 l = ordVgo n s' (l.drop (k + 1))) := Lib.hid ⟨by
            rw [hs']; exact Nat.or_lt_two_pow HG.out.2 (Nat.pow_lt_pow_right (by omega) hy), by rw [HG.out.1, HD.out, ordVgo_on hy, hs']⟩
          clear hs'
          go_wp2_with fail
          go_round
          case rel => exact ⟨k + 1, s', by omega, by go_num, rfl, HN.out.1, HN.out.2⟩
          case measure => simp [intOf]; omega
    · obtain rfl : k = m := by omega
      have HR : Hid (ordV n l = (decide (met = 2 ^ n - 1) && decide (k = n))) := Lib.hid (by unfold ordV; rw [HG.out.1, List.drop_of_length_le (by rw [H.out.1]; omega), H.out.1]; simp [ordVgo])
      have l1 : ¬ (k : Int) < (k : Int) := by omega
      by_cases hkn : k = n
      · have hd : ((k : Int) == (n : Int)) = true := by simp [hkn]
        have HK := Lib.hid hkn
        clear hkn
        rw [← HPE.out] at HR
        cases hs : decide (met = P - 1)
        · have he : ((met : Int) == (P : Int) - 1) = false := by
            rw [decide_eq_false_iff_not] at hs
            rw [beq_eq_false_iff_ne]; omega
          have HS := Lib.hid hs
          clear hs
          go_wp2_with fail
          go_ret
          exact ⟨ret_bool (by rw [HR.out, HS.out]; rfl), rfl⟩
        · have he : ((met : Int) == (P : Int) - 1) = true := by
            rw [decide_eq_true_eq] at hs
            rw [beq_iff_eq]; omega
          have HS := Lib.hid hs
          clear hs
          go_wp2_with fail
          go_ret
          exact ⟨ret_bool (by rw [HR.out, HS.out]; simp [HK.out]), rfl⟩
      · have hd : ((k : Int) == (n : Int)) = false := by simp; omega
        go_wp2_with fail
        go_ret
        exact ⟨ret_bool (by rw [HR.out]; simp [hkn]), rfl⟩

theorem vnames_any (A : Option Addr) (n cap m : Nat) (V : List (List Int)) (w : World) (hl : V.length = n) (hn : 1 ≤ n) (hn2 : n ≤ 1000) (hm : m = (rowV V 0).length) (_hm2 : m ≤ 1000) (h : Mat w A V) :
    Calls Try.prog 16 #[.slice A n cap] w fun e w' => e = .returned (.int .i64 m) ∧ w = w' := by
  obtain ⟨ad, rfl, _, hc⟩ := h.some_ (by omega)
  obtain ⟨A', c, h1, hrest⟩ := hc 0 _ (List.getElem?_eq_getElem (by omega))
  clear hrest
  have e : (V[0]'(by omega)).length = m := by rw [hm, rowV_get (List.getElem?_eq_getElem (by omega))]
  rw [e] at h1
  have c0 : w.cell? ad = some (.slice A' m c) := h1
  have l1 : (0 : Int) < (n : Int) := by omega
  clear hl hm h hc h1 e
  go_enter Try.func16, Try.ntmps16
  go_wp2_with fail
  go_ret
  exact ⟨rfl, rfl⟩

set_option maxHeartbeats 800000 in
theorem vvalid1_any (R : Option Addr) (k capr Bv m : Nat) (A : Option Addr) (n cap : Nat) (r : List Int) (V : List (List Int)) (w : World) (hl : r.length = k) (hk : k ≤ 9223372036854775807) (hR : Ints w R r) (hv : w.cell? ⟨Bv, 0, none⟩ = some (.slice A n cap))
    (hlV : V.length = n) (hn : 1 ≤ n ∧ n ≤ 9) (hm : m = (rowV V 0).length) (hm7 : 1 ≤ m ∧ m ≤ 5) (hV : Mat w A V) :
    Calls Try.prog 25 #[.slice R k capr, .pointer (some ⟨Bv, 0, none⟩)] w fun e w' => e = .returned (.bool (!ordV m r)) ∧ w = w' := by
  obtain ⟨ad, rfl, _, hc⟩ := hV.some_ (by omega)
  obtain ⟨A', c, h1, hrest⟩ := hc 0 _ (List.getElem?_eq_getElem (by omega))
  clear hrest
  have e : (V[0]'(by omega)).length = m := by rw [hm, rowV_get (List.getElem?_eq_getElem (by omega))]
  rw [e] at h1
  have c0 : w.cell? ad = some (.slice A' m c) := h1
  have l1 : (0 : Int) < (n : Int) := by omega
  have H := Lib.hid (visorder_any R k capr r m w hl hk (by omega) hR)
  clear hl hm hV hc h1 e hR hlV
  go_enter Try.func25, Try.ntmps25
  go_wp2_with fail
  refine H.out.mono ?_
  rintro e w' ⟨rfl, rfl⟩
  go_wp2_with fail
  go_ret
  exact ⟨rfl, rfl⟩

/-- What IndexFunc leaves. -/
def AnyPostV (b : Bool) (w : World) (e : Ending) (w' : World) : Prop := ∃ r : Int, e = .returned (.int .i64 r) ∧ w = w' ∧ -1 ≤ r ∧ decide (0 ≤ r) = b
set_option maxHeartbeats 800000 in
theorem indexB_any (A : Option Addr) (n cap Bv m : Nat) (V : List (List Int)) (w : World) (hv : w.cell? ⟨Bv, 0, none⟩ = some (.slice A n cap))
    (hlV : V.length = n) (hn : 1 ≤ n ∧ n ≤ 9) (hm : m = (rowV V 0).length) (hm7 : 1 ≤ m ∧ m ≤ 5) (hV : Mat w A V) :
    Calls Try.prog 48 #[.slice A n cap, .func (.func 25) #[] #[.pointer (some ⟨Bv, 0, none⟩)]] w (AnyPostV (V.any (fun r => !ordV m r)) w) := by
  obtain ⟨ad, rfl, _, hc⟩ := hV.some_ (by omega)
  have H := Lib.hid (And.intro hlV (And.intro hm (And.intro hV (And.intro hc hv))))
  clear hlV hm hV hc
  go_enter Try.func48, Try.ntmps48
  go_wp2_with fail
  go_loop [8] (fun i => ∃ k : Nat, k ≤ n ∧ i = .int .i64 k ∧ (V.take k).any (fun r => !ordV m r) = false) (fun i => n - (intOf i).toNat)
  case atStart => exact ⟨0, Nat.zero_le _, rfl, by simp⟩
  case round =>
    obtain ⟨k, hk, rfl, ha⟩ := hrel
    have HA := Lib.hid ha
    clear ha
    by_cases hlt : k < n
    · obtain ⟨hlV, hm, hV, hc, hv'⟩ := H.out
      obtain ⟨r, hr⟩ : ∃ r, V[k]? = some r := ⟨_, List.getElem?_eq_getElem (by omega)⟩
      obtain ⟨R, cr, g1, g2, g3, g4⟩ := hc k r hr
      have HX := Lib.hid (And.intro hr g4)
      have l1 : (k : Int) < (n : Int) := by omega
      clear hlV hm hV hc hr g4 hv'
      go_wp2_with fail
      refine (vvalid1_any R r.length cr Bv m (some ad) n cap r V _ rfl (by omega) HX.out.2 hv H.out.1 hn H.out.2.1 hm7 H.out.2.2.1).mono ?_
      rintro e w' ⟨rfl, rfl⟩
      cases hb : ordV m r
      · have HN : Hid (V.any (fun r => !ordV m r) = true) := Lib.hid (List.any_eq_true.2 ⟨r, List.mem_of_getElem? HX.out.1, by rw [hb]; rfl⟩)
        clear hb
        go_wp2_with fail
        go_ret
        exact ⟨(k : Int), rfl, rfl, by omega, by rw [HN.out, decide_eq_true (by omega)]⟩
      · have HN : Hid ((V.take (k + 1)).any (fun r => !ordV m r) = false) := Lib.hid (by rw [List.take_add_one, HX.out.1, List.any_append, HA.out]; simp [hb])
        clear hb
        go_wp2_with fail
        go_round
        case rel => exact ⟨k + 1, by omega, by go_num, HN.out⟩
        case measure => simp [intOf]; omega
    · have HN : Hid (V.any (fun r => !ordV m r) = false) := Lib.hid (by have h := HA.out; rwa [List.take_of_length_le (by rw [H.out.1]; omega)] at h)
      go_wp2_with fail
      go_ret
      exact ⟨-1, rfl, rfl, by omega, by rw [HN.out]; rfl⟩

theorem containsB_any (A : Option Addr) (n cap Bv m : Nat) (V : List (List Int)) (w : World) (hv : w.cell? ⟨Bv, 0, none⟩ = some (.slice A n cap))
    (hlV : V.length = n) (hn : 1 ≤ n ∧ n ≤ 9) (hm : m = (rowV V 0).length) (hm7 : 1 ≤ m ∧ m ≤ 5) (hV : Mat w A V) :
    Calls Try.prog 24 #[.slice A n cap, .func (.func 25) #[] #[.pointer (some ⟨Bv, 0, none⟩)]] w fun e w' => e = .returned (.bool (V.any (fun r => !ordV m r))) ∧ w = w' := by
  go_enter Try.func24, Try.ntmps24
  go_wp2_with fail
  refine (indexB_any A n cap Bv m V _ hv hlV hn hm hm7 hV).mono ?_
  rintro e w' ⟨r, rfl, rfl, hr, hd⟩
  have HD := Lib.hid hd
  clear hd hv hlV hm hV
  go_wp2_with fail
  go_ret
  exact ⟨ret_bool HD.out, rfl⟩

theorem valB_eq {V : List (List Int)} {m : Nat} (hn : 1 ≤ V.length ∧ V.length ≤ 9) (hm : m = (rowV V 0).length) (hm7 : 1 ≤ m ∧ m ≤ 5) : valB V = !V.any (fun r => !ordV m r) := by
  unfold valB
  rw [← hm, decide_eq_true hn.1, decide_eq_true hn.2, decide_eq_true hm7.1, decide_eq_true hm7.2]
  simp only [Bool.true_and]
  rw [List.any_eq_not_all_not]
  simp

set_option maxRecDepth 100000 in
set_option maxHeartbeats 1600000 in
theorem vvalid_any (A : Option Addr) (n cap : Nat) (V : List (List Int)) (w : World) (hl : V.length = n) (hn : n ≤ 9223372036854775807) (hV : Mat w A V) :
    Calls Try.prog 13 #[.slice A n cap] w fun e w' => e = .returned (.bool (valB V)) ∧ Below w.heap.size w w' := by
  obtain ⟨b, hb⟩ : ∃ b, b = valB V := ⟨_, rfl⟩
  rw [← hb]
  have HBB := Lib.hid (And.intro hb hl)
  by_cases h1 : n < 1
  · have HF : Hid (b = false) := Lib.hid (by rw [hb]; unfold valB; rw [decide_eq_false (by omega)]; rfl)
    clear hb hl hV
    go_enter Try.func13, Try.ntmps13
    go_wp2_with fail
    go_ret
    exact ⟨ret_bool HF.out.symm, (Below.refl _ _).alloc (Nat.le_refl _) _⟩
  · by_cases h2 : 9 < n
    · have HF : Hid (b = false) := Lib.hid (by rw [hb]; unfold valB; rw [decide_eq_false (p := V.length ≤ 9) (by omega)]; simp)
      clear hb hl hV
      go_enter Try.func13, Try.ntmps13
      go_wp2_with fail
      go_ret
      exact ⟨ret_bool HF.out.symm, (Below.refl _ _).alloc (Nat.le_refl _) _⟩
    · obtain ⟨m, hm⟩ : ∃ m, m = (rowV V 0).length := ⟨_, rfl⟩
      obtain ⟨ad, rfl, had, hc⟩ := hV.some_ (by omega)
      obtain ⟨A', c, g1, g2, g3, g4⟩ := hc 0 _ (List.getElem?_eq_getElem (by omega))
      have e : (V[0]'(by omega)).length = m := by rw [hm, rowV_get (List.getElem?_eq_getElem (by omega))]
      rw [e] at g1 g2
      have c0 : ∀ o, (w.alloc o).cell? ad = some (.slice A' m c) := fun o => (World.cell?_alloc_lt _ _ _ (lt_of_cell g1)).trans g1
      have H := Lib.hid (And.intro hb (And.intro hl (And.intro hm hV)))
      have l1 : (0 : Int) < (n : Int) := by omega
      clear hb hl hm hV hc g1 g4 e
      by_cases h3 : m < 1
      · have HF : Hid (b = false) := Lib.hid (by rw [H.out.1]; unfold valB; rw [← H.out.2.2.1, decide_eq_false (p := 1 ≤ m) (by omega)]; simp)
        go_enter Try.func13, Try.ntmps13
        go_wp2_with fail
        go_ret
        exact ⟨ret_bool HF.out.symm, (Below.refl _ _).alloc (Nat.le_refl _) _⟩
      · by_cases h4 : 5 < m
        · have HF : Hid (b = false) := Lib.hid (by rw [H.out.1]; unfold valB; rw [← H.out.2.2.1, decide_eq_false (p := m ≤ 5) (by omega)]; simp)
          go_enter Try.func13, Try.ntmps13
          go_wp2_with fail
          go_ret
          exact ⟨ret_bool HF.out.symm, (Below.refl _ _).alloc (Nat.le_refl _) _⟩
        · have HF : Hid (b = !V.any (fun r => !ordV m r)) := Lib.hid (by rw [H.out.1]; exact valB_eq (by rw [H.out.2.1]; omega) H.out.2.2.1 (by omega))
          have hp : ∀ o, (w.alloc (.cells #[o] 37)).cell? ⟨w.heap.size, 0, none⟩ = some o := fun o => (Blk.new w 37 #[o] rfl).at1.1
          have HP := Lib.hid hp
          clear hp
          go_enter Try.func13, Try.ntmps13
          go_wp2_with fail
          refine (containsB_any (some ad) n cap w.heap.size m V _ (HP.out _) H.out.2.1 (by omega) H.out.2.2.1 (by omega) (H.out.2.2.2.below ((Below.refl _ _).alloc (Nat.le_refl _) _))).mono ?_
          rintro e w' ⟨rfl, rfl⟩
          go_wp2_with fail
          go_ret
          exact ⟨ret_bool HF.out.symm, (Below.refl _ _).alloc (Nat.le_refl _) _⟩

/- Contracts: upTo of package vote, the top's copy of ballots. -/

theorem intL_range_succ (k : Nat) : (intL (List.range (k + 1))).map (Value.int .i64) = (intL (List.range k)).map (Value.int .i64) ++ [.int .i64 (k : Int)] := by
  rw [List.range_succ]; simp [intL]

set_option maxHeartbeats 800000 in
theorem vupto_any (n : Nat) (w : World) (hn : n ≤ 1000) :
    Calls Try.prog 15 #[.int .i64 n] w fun e w' => ∃ A' c, e = .returned (.slice A' n c) ∧ w'.ownsRow w.heap.size 3 1 (.slice A' n c) n ((intL (List.range n)).map (Value.int .i64)) ∧ Below w.heap.size w w' := by
  have h0 : (w.alloc (.cells #[] 3)).ownsRow w.heap.size 3 1 (.slice (some ⟨w.heap.size, 0, none⟩) 0 0) 0 ((intL (List.range 0)).map (Value.int .i64)) := World.ownsRow_made w #[] 0 (Nat.le_refl _) (by decide) rfl
  have H0 := Lib.hid (And.intro h0 ((Below.refl w.heap.size w).alloc (Nat.le_refl _) (.cells #[] 3)))
  clear h0
  go_enter Try.func15, Try.ntmps15
  go_wp2_with fail
  go_loopw [3, 7] (fun ov iv wr => ∃ (k : Nat) (B : Option Addr) (bc : Nat), k ≤ n ∧ iv = .int .i64 k ∧ ov = .slice B k bc ∧ wr.ownsRow w.heap.size 3 1 (.slice B k bc) k ((intL (List.range k)).map (Value.int .i64)) ∧ Below w.heap.size w wr) (fun _ iv _ => n - (intOf iv).toNat)
  case atStart => exact ⟨0, some ⟨w.heap.size, 0, none⟩, 0, Nat.zero_le _, rfl, rfl, H0.out.1, H0.out.2⟩
  case round =>
    obtain ⟨k, B, bc, hk, rfl, rfl, hown, hbl⟩ := hrel
    have HR := Lib.hid (And.intro hown hbl)
    have hws := hbl.size
    clear hown hbl
    by_cases hlt : k < n
    · have l1 : (k : Int) < (n : Int) := by omega
      go_wp2_with (at_builtin; refine app1 sty_int rfl _ _ rfl w.heap.size B k bc _ #[.int .i64 (k : Int)] rfl (by simp [Value.oneCell']) rfl HR.out.1 rfl (by omega) (by omega) ?_)
      intro A4 k4 w4 hown4 _ hbl4 hk41 hk42
      have hown4' : w4.ownsRow w.heap.size 3 1 (.slice A4 (k + 1) k4) (k + 1) ((intL (List.range (k + 1))).map (Value.int .i64)) := by rw [intL_range_succ]; exact hown4
      have HR4 := Lib.hid (And.intro hown4' (HR.out.2.trans hbl4))
      clear hown4 hown4' hbl4
      go_wp2_with fail
      go_roundw
      case rel => exact ⟨k + 1, A4, k4, by omega, by go_num, rfl, HR4.out.1, HR4.out.2⟩
      case measure => simp [intOf]; omega
    · obtain rfl : n = k := by omega
      have l1 : ¬ (n : Int) < (n : Int) := by omega
      go_wp2_with fail
      go_ret
      exact ⟨B, bc, rfl, HR.out.1, HR.out.2⟩

/-- What the top hands on of ballots. -/
def cutB (V : List (List Int)) : List (List Int) := (V.take 11).map (·.take 11)
theorem cutB_on {V : List (List Int)} {k : Nat} {r : List Int} (h : V[k]? = some r) (hk : k < 11) : cutB (V.take (k + 1)) = cutB (V.take k) ++ [r.take 11] := by
  unfold cutB
  have hl := (List.getElem?_eq_some_iff.1 h).1
  rw [List.take_of_length_le (l := V.take (k + 1)) (by rw [List.length_take]; omega), List.take_of_length_le (l := V.take k) (by rw [List.length_take]; omega), List.take_add_one, h]
  simp
theorem cutB_off {V : List (List Int)} {k : Nat} (hk : 11 ≤ k) : cutB (V.take (k + 1)) = cutB (V.take k) := by
  unfold cutB
  rw [List.take_take, List.take_take, show min 11 (k + 1) = 11 by omega, show min 11 k = 11 by omega]
theorem cutB_length (V : List (List Int)) : (cutB V).length = min 11 V.length := by simp [cutB]
/-- Small ballots are handed on whole. -/
theorem cutB_small {V : List (List Int)} (h1 : V.length ≤ 11) (h2 : ∀ r ∈ V, r.length ≤ 11) : cutB V = V := by
  unfold cutB
  rw [List.take_of_length_le h1]
  conv => rhs; rw [← List.map_id V]
  exact List.map_congr_left fun r hr => List.take_of_length_le (h2 r hr)

set_option maxRecDepth 100000 in
set_option maxHeartbeats 1600000 in
theorem tballots_any (A : Option Addr) (n cap : Nat) (V : List (List Int)) (w : World) (hl : V.length = n) (hn : n ≤ 9223372036854775807) (hV : Mat w A V) :
    Calls Try.prog 5 #[.slice A n cap] w fun e w' => ∃ A' q c, e = .returned (.slice A' q c) ∧ (cutB V).length = q ∧ q ≤ 11 ∧ q ≤ c ∧ c ≤ 9223372036854775807 ∧ Mat w' A' (cutB V) ∧ Below w.heap.size w w' := by
  have H := Lib.hid (And.intro hl hV)
  clear hl hV
  go_enter Try.func5, Try.ntmps5
  go_wp2_with fail
  go_loopw [3, 8] (fun ov iv wr => ∃ (k : Nat) (B : Option Addr) (q bc : Nat) (vs : List Value), k ≤ n ∧ iv = .int .i64 k ∧ ov = .slice B q bc ∧ q = (cutB (V.take k)).length ∧ wr.ownsRow w.heap.size 23 1 (.slice B q bc) q vs ∧ Rows wr 0 vs (cutB (V.take k)) ∧ Below w.heap.size w wr) (fun _ iv _ => n - (intOf iv).toNat)
  case atStart => exact ⟨0, none, 0, 0, [], Nat.zero_le _, rfl, rfl, rfl, World.ownsRow_nil _ _ _ _, Rows.nil, Below.refl _ _⟩
  case round =>
    obtain ⟨k, B, q, bc, vs, hk, rfl, rfl, hq, hown, hrows, hbl⟩ := hrel
    obtain ⟨wo, rfl⟩ : ∃ wo : World, wo = wr := ⟨_, rfl⟩
    have hq6 : q ≤ 11 := by rw [hq, cutB_length]; omega
    have HR := Lib.hid (And.intro hown (And.intro hrows (And.intro hbl hq)))
    have hwsz := hbl.size
    clear hown hrows hbl hq
    by_cases hlt : k < n
    · obtain ⟨r, hr⟩ : ∃ r, V[k]? = some r := ⟨_, List.getElem?_eq_getElem (by have := H.out.1; omega)⟩
      obtain ⟨ad, A', c, rfl, hcell, hrc, hc2, hI⟩ := H.out.2 k r hr
      have hcell2 := (HR.out.2.2.1.cell (lt_of_cell hcell)).trans hcell
      obtain ⟨rl, hrl⟩ : ∃ rl, rl = r.length := ⟨_, rfl⟩
      rw [← hrl] at hcell2 hrc
      have HI := Lib.hid (And.intro (hI.below HR.out.2.2.1) (And.intro hrl hr))
      have l1 : (k : Int) < (n : Int) := by omega
      clear hr hcell hI hrl
      by_cases h6 : k < 11
      · have l2 : (k : Int) < 11 := by omega
        by_cases h0 : rl ≤ 11
        · have hlen : (r.take 11).length = rl := by rw [List.length_take, ← HI.out.2.1]; omega
          have h0' : (rl : Int) ≤ 11 := by omega
          have HLEN := Lib.hid hlen
          clear hlen
          go_wp2_with fail
          refine (clone_any A' rl c (r.take 11) _ HLEN.out (by omega) (HI.out.1.take 11)).mono ?_
          rintro e w2 ⟨A2, c2, rfl, hown2, hb2⟩
          have hw2 := hb2.size
          have hown2' : w2.ownsRow wo.heap.size 3 1 (.slice A2 (r.take 11).length c2) (r.take 11).length ((r.take 11).map (Value.int .i64)) := by rw [HLEN.out]; exact hown2
          have hrow : Row1 w2 0 (.slice A2 rl c2) (r.take 11) := by have h := Row1.of_own hown2' 0; rw [HLEN.out] at h; exact h
          have H2 := Lib.hid (And.intro (own_below HR.out.1 hb2) (And.intro (HR.out.2.1.below hb2) (And.intro hrow (And.intro hb2 (cutB_on HI.out.2.2 h6)))))
          clear hown2 hown2' hb2 hrow
          go_wp2_with (at_builtin; refine app1 sty_intss rfl _ _ rfl w.heap.size B q bc _ #[.slice A2 rl c2] rfl (by simp [Value.oneCell']) rfl H2.out.1 rfl (by omega) (by omega) ?_)
          intro A8 k8 w8 hown8 hg8 hbl8 hk81 hk82
          have hrows8 : Rows w8 0 (vs ++ [.slice A2 rl c2]) (cutB (V.take (k + 1))) := by
            rw [H2.out.2.2.2.2]
            exact (H2.out.2.1.append (Rows.one_ H2.out.2.2.1)).grown H2.out.1 (Nat.zero_le _) hg8
          have hlen8 : q + 1 = (cutB (V.take (k + 1))).length := by rw [H2.out.2.2.2.2, List.length_append, ← HR.out.2.2.2]; rfl
          have H8 := Lib.hid (And.intro hown8 (And.intro hrows8 (And.intro (HR.out.2.2.1.trans ((H2.out.2.2.2.1.mono hwsz).trans hbl8)) hlen8)))
          clear hown8 hg8 hbl8 hrows8 hlen8
          go_wp2_with fail
          go_roundw
          case rel => exact ⟨k + 1, A8, q + 1, k8, _, by omega, by go_num, by go_num, H8.out.2.2.2, H8.out.1, H8.out.2.1, H8.out.2.2.1⟩
          case measure => simp [intOf]; omega
        · have hlen : (r.take 11).length = 11 := by rw [List.length_take, ← HI.out.2.1]; omega
          have h0' : ¬ (rl : Int) ≤ 11 := by omega
          have h3 : 11 ≤ c := by omega
          have HLEN := Lib.hid hlen
          clear hlen
          go_wp2_with fail
          refine (clone_any A' 11 c (r.take 11) _ HLEN.out (by omega) (HI.out.1.take 11)).mono ?_
          rintro e w2 ⟨A2, c2, rfl, hown2, hb2⟩
          have hw2 := hb2.size
          have hown2' : w2.ownsRow wo.heap.size 3 1 (.slice A2 (r.take 11).length c2) (r.take 11).length ((r.take 11).map (Value.int .i64)) := by rw [HLEN.out]; exact hown2
          have hrow : Row1 w2 0 (.slice A2 11 c2) (r.take 11) := by have h := Row1.of_own hown2' 0; rw [HLEN.out] at h; exact h
          have H2 := Lib.hid (And.intro (own_below HR.out.1 hb2) (And.intro (HR.out.2.1.below hb2) (And.intro hrow (And.intro hb2 (cutB_on HI.out.2.2 h6)))))
          clear hown2 hown2' hb2 hrow
          go_wp2_with (at_builtin; refine app1 sty_intss rfl _ _ rfl w.heap.size B q bc _ #[.slice A2 11 c2] rfl (by simp [Value.oneCell']) rfl H2.out.1 rfl (by omega) (by omega) ?_)
          intro A8 k8 w8 hown8 hg8 hbl8 hk81 hk82
          have hrows8 : Rows w8 0 (vs ++ [.slice A2 11 c2]) (cutB (V.take (k + 1))) := by
            rw [H2.out.2.2.2.2]
            exact (H2.out.2.1.append (Rows.one_ H2.out.2.2.1)).grown H2.out.1 (Nat.zero_le _) hg8
          have hlen8 : q + 1 = (cutB (V.take (k + 1))).length := by rw [H2.out.2.2.2.2, List.length_append, ← HR.out.2.2.2]; rfl
          have H8 := Lib.hid (And.intro hown8 (And.intro hrows8 (And.intro (HR.out.2.2.1.trans ((H2.out.2.2.2.1.mono hwsz).trans hbl8)) hlen8)))
          clear hown8 hg8 hbl8 hrows8 hlen8
          go_wp2_with fail
          go_roundw
          case rel => exact ⟨k + 1, A8, q + 1, k8, _, by omega, by go_num, by go_num, H8.out.2.2.2, H8.out.1, H8.out.2.1, H8.out.2.2.1⟩
          case measure => simp [intOf]; omega
      · have HE := Lib.hid (cutB_off (V := V) (k := k) (by omega))
        have l2 : ¬ (k : Int) < 11 := by omega
        go_wp2_with fail
        go_roundw
        case rel => exact ⟨k + 1, B, q, bc, vs, by omega, by go_num, rfl, by rw [HE.out]; exact HR.out.2.2.2, HR.out.1, by rw [HE.out]; exact HR.out.2.1, HR.out.2.2.1⟩
        case measure => simp [intOf]; omega
    · obtain rfl : k = n := by omega
      have l1 : ¬ (k : Int) < (k : Int) := by omega
      go_wp2_with fail
      go_ret
      have hT : V.take k = V := List.take_of_length_le (by have := H.out.1; omega)
      obtain ⟨g1, g2, g3, g4⟩ := HR.out
      rw [hT] at g2 g4
      obtain ⟨A', c', he, h1, h2, _⟩ := own_form g1
      injection he with e1 e2 e3
      subst e1; subst e3
      exact ⟨B, q, bc, rfl, g4.symm, hq6, h1, h2, Mat.of_rows (At.of_own g1) g2, g3⟩

/- Words for the iterator that hands on all orders of some numbers: append inside a fence, the places of memory. -/
open Go.RowKit Go.Shelf

theorem room_of_none {F : Fence} (hd : F.depth = none) (k : Nat) : F.room k := fun d h => by rw [hd] at h; cases h
theorem round_anyDepth {F : Fence} (hd : F.depth = none) {m m' : Nat} {P : Program} {l : Nat} {f : FuncId} {tmps : Array Value} {assign body : Code} {w : World} {R : Ending → World → Prop}
    (h : RoundIn F m P l f tmps assign body w R) : RoundIn F m' P l f tmps assign body w R := ⟨h.1, fun c cs _ => h.2 c cs (room_of_none hd _)⟩
theorem yield_anyDepth {F : Fence} (hd : F.depth = none) {m : Nat} (m' : Nat) {P : Program} {l : Nat} {args : Array Value} {W : World} {R : Ending → World → Prop} (h : YieldAt F m P l args W R) : YieldAt F m' P l args W R := by
  obtain ⟨fn, tmps, assign, body, hy, hR⟩ := h
  exact ⟨fn, tmps, assign, body, hy, round_anyDepth hd hR⟩

theorem app1wIn {F : Fence} {nf : Nat} {T e : TypeId} {z : Value} {bytes : Nat} (ty : STy T e z 1 bytes) {ops : Array Oper} {rest : List Oper} {o : Oper} {a : Act} {Q : Exit → Act → World → Prop} {w : World}
    (hgd : o.guard = none) (s x : Operand) (ho : o.op = .call { callee := .builtin .append, args := #[s, x], argTypes := #[T, T] })
    (base : Nat) (A : Option Addr) (n k : Nat) (xs : List Value) (u : Value) (h1 : u.oneCell' = true)
    (hs : a.eval s = .slice A n k) (hown : w.ownsRow base e 1 (.slice A n k) n xs) (g : Nat) (hx : a.eval x = .slice (some ⟨g, 0, none⟩) 1 1) (hg : g = w.heap.size)
    (hn : n ≤ 100000) (hb : base ≤ w.heap.size)
    (h : ∀ (A' : Option Addr) (k' : Nat) (w' : World), w'.ownsRow base e 1 (.slice A' (n + 1) k') (n + 1) (xs ++ [u]) → w.grownBy w' (Value.slice A n k).ownBlock → Below base w w' → n + 1 ≤ k' → k' ≤ 9223372036854775807 → Stay w (.slice A' (n + 1) k') (.slice A n k) →
      wpListIn F nf Try.prog ops Q rest (a.put o.dst (.slice A' (n + 1) k')) w') : wpListIn F nf Try.prog ops Q (o :: rest) a (w.alloc (.cells #[u] e)) := by
  subst hg
  obtain ⟨i0, hi, hz0, hz1, hz2⟩ := info_parts ty.inf
  have hnews : ∀ j x, [u][j]? = some x → (w.alloc (.cells #[u] e)).cell? ((⟨w.heap.size, 0, none⟩ : Addr).add j) = some x := by
    intro j x hx
    exact (At.some2 (Blk.new w e #[u] rfl).at_) j x hx
  have hbytes : (n + 1) * bytes ≤ 140737488355328 := by
    have h2 := ty.hby
    calc (n + 1) * bytes ≤ 1000000 * 100 := Nat.mul_le_mul (by omega) h2
      _ ≤ _ := by decide
  have hone : ∀ x ∈ [u], x.oneCell' = true := by intro x hx; rw [List.mem_singleton.1 hx]; exact h1
  obtain ⟨v', w', hr, hown', hg, _⟩ := run_append_own (P := Try.prog) (w.alloc (.cells #[u] e)) base T o.type e i0 z 1 bytes ty.ht hi hz0 hz1 hz2 ty.hzs ty.hsz (.slice A n k) n xs (hown.alloc _)
    ⟨w.heap.size, 0, none⟩ 1 1 [u] rfl hnews hone (by unfold maxLen; omega) hbytes (by go_size)
  have hst := run_where ty o.type (hown.alloc _) (m := 1) rfl hnews hone (by omega) hr (by omega)
  refine wpListIn_plain hgd fun K hK' => ?_
  unfold Oper.wpIn
  refine ⟨?_, ?_⟩
  · simp [Oper.about, ho, resolve, Target.leads, Sem.run_pure]
  · rw [Oper.semAt_plain F _ _ (by rw [ho]; intro c hc'; cases hc')]
    simp [execOp, ho, resolve, invoke, builtin, hs, hx, hr, Result.andThen]
    obtain ⟨A', k', rfl, hk, hk', _⟩ := own_form hown'
    have hg' : w.grownBy w' (Value.slice A n k).ownBlock :=
      ⟨hg.os, hg.tape, hg.output, Nat.le_trans (by simp) hg.size, fun b hb hne => (hg.block b (Nat.lt_of_lt_of_le hb (by simp)) hne).trans (Below.heap_alloc w _ b hb)⟩
    refine hK' _ _ (h A' k' w' hown' hg' ?_ hk hk' ?_)
    · refine ⟨hg'.os, hg'.tape, hg'.output, hg'.size, fun b hb' => hg'.block b (by omega) fun he => ?_⟩
      have := (hown.lt b he.symm).1
      omega
    · intro ad' n' k'' he
      rcases hst ad' n' k'' he with h | h
      · exact .inl h
      · exact .inr (Nat.le_trans (by simp) h)

/-- The places of the iterator: the loop's record, the names, its own three cells (from n0 on), and what a round may turn. -/
structure OX where
  l : Nat
  Bn : Nat
  An : Addr
  cn : Nat
  n : Nat
  n0 : Nat
  S : List Nat
structure OX.ok (X : OX) : Prop where
  hn : 1 ≤ X.n ∧ X.n ≤ 5
  hS : ∀ x ∈ X.S, x < X.n0
  hB : X.Bn ∉ X.S ∧ X.Bn < X.n0
  hA : X.An.block ∉ X.S ∧ X.An.block < X.n0
/-- What the inner function has captured. -/
def OX.caps (X : OX) : Array Value := #[.pointer (some ⟨X.n0 + 1, 0, none⟩), .pointer (some ⟨X.Bn, 0, none⟩), .pointer (some ⟨X.n0, 0, none⟩), .pointer (some ⟨X.n0 + 2, 0, none⟩)]
/-- The fixed parts of memory. -/
structure OX.fix (X : OX) (w : World) : Prop where
  size : X.n0 + 3 ≤ w.heap.size
  yb : Blk w X.n0 54 #[.func (.yield X.l) #[] #[]]
  gb : Blk w (X.n0 + 2) 29 #[.func (.func 50) #[] X.caps]
  nb : w.cell? ⟨X.Bn, 0, none⟩ = some (.slice (some X.An) X.n X.cn)
  nm : Ints w (some X.An) (intL (List.range X.n))
/-- The order so far; its cells lie in block o. -/
def OX.pre (X : OX) (po : List Nat) (o : Nat) (w : World) : Prop := ∃ A k, Blk w (X.n0 + 1) 23 #[.slice A po.length k] ∧ w.ownsRow (X.n0 + 3) 3 1 (.slice A po.length k) po.length ((intL po).map (Value.int .i64)) ∧
  (∀ ad, A = some ad → ad.block = o) ∧ o < w.heap.size ∧ (o = X.n0 + 1 ∨ X.n0 + 3 ≤ o) ∧ po.length ≤ k ∧ k ≤ 9223372036854775807

theorem OX.fix.kept {X : OX} {w w' : World} {o : Nat} (hx : X.ok) (h : X.fix w) (hk : Kept w.heap.size [o, X.n0 + 1] w w') (ho : o = X.n0 + 1 ∨ X.n0 + 3 ≤ o) : X.fix w' := by
  have hs := h.size
  have k : ∀ g, g < w.heap.size → g ≠ o → g ≠ X.n0 + 1 → w'.heap[g]? = w.heap[g]? := fun g h1 h2 h3 => hk.block g h1 (by simp [h2, h3])
  refine ⟨Nat.le_trans hs hk.size, (k _ (by omega) (by omega) (by omega)).trans h.yb, (k _ (by omega) (by omega) (by omega)).trans h.gb, ?_, ?_⟩
  · rw [World.cell?_of_block (w := w) (k X.Bn (by have := hx.hB; omega) (by have := hx.hB; omega) (by have := hx.hB; omega))]; exact h.nb
  · intro i v hv
    obtain ⟨ad, he, hc⟩ := h.nm i v hv
    injection he with he
    refine ⟨ad, by rw [he], ?_⟩
    have hb : (ad.add i).block = X.An.block := by rw [add_block, ← he]
    rw [World.cell?_of_block (w := w) (by rw [hb]; exact k _ (by have := hx.hA; omega) (by have := hx.hA; omega) (by have := hx.hA; omega))]; exact hc
/-- A round keeps the iterator's memory. -/
theorem OX.fix.round {X : OX} {w w' : World} (hx : X.ok) (h : X.fix w) (hk : Kept w.heap.size X.S w w') : X.fix w' := by
  have hs := h.size
  have k : ∀ g, g < w.heap.size → g ∉ X.S → w'.heap[g]? = w.heap[g]? := fun g h1 h2 => hk.block g h1 h2
  have n : ∀ g, X.n0 ≤ g → g ∉ X.S := fun g h1 h2 => by have := hx.hS g h2; omega
  refine ⟨Nat.le_trans hs hk.size, (k _ (by omega) (n _ (by omega))).trans h.yb, (k _ (by omega) (n _ (by omega))).trans h.gb, ?_, ?_⟩
  · rw [World.cell?_of_block (w := w) (k X.Bn (by have := hx.hB; omega) hx.hB.1)]; exact h.nb
  · intro i v hv
    obtain ⟨ad, he, hc⟩ := h.nm i v hv
    injection he with he
    refine ⟨ad, by rw [he], ?_⟩
    have hb : (ad.add i).block = X.An.block := by rw [add_block, ← he]
    rw [World.cell?_of_block (w := w) (by rw [hb]; exact k _ (by have := hx.hA; omega) hx.hA.1)]; exact hc
theorem OX.pre.round {X : OX} {w w' : World} {po : List Nat} {o : Nat} (hx : X.ok) (h : X.pre po o w) (hk : Kept w.heap.size X.S w w') : X.pre po o w' := by
  obtain ⟨A, k, h1, h2, h3, h4, h5, h6, h7⟩ := h
  have n : ∀ g, X.n0 ≤ g → g ∉ X.S := fun g h1 h2 => by have := hx.hS g h2; omega
  refine ⟨A, k, (hk.block _ h1.lt (n _ (by omega))).trans h1, ?_, h3, Nat.lt_of_lt_of_le h4 hk.size, h5, h6, h7⟩
  refine ⟨h2.1, ?_⟩
  rcases h2.2 with h0 | ⟨g, cap, cur, hv, a1, a2, a3⟩
  · exact .inl h0
  · exact .inr ⟨g, cap, cur, hv, a1, (hk.block g (lt_of_block a2) (n _ (by omega))).trans a2, a3⟩
/-- New blocks keep it too. -/
theorem OX.fix.below {X : OX} {w w' : World} (h : X.fix w) (hb : Below w.heap.size w w') : X.fix w' :=
  ⟨Nat.le_trans h.size hb.size, h.yb.below hb h.yb.lt, h.gb.below hb h.gb.lt, (hb.cell (lt_of_cell h.nb)).trans h.nb, h.nm.below hb⟩
theorem OX.pre.below {X : OX} {w w' : World} {po : List Nat} {o : Nat} (h : X.pre po o w) (hb : Below w.heap.size w w') : X.pre po o w' := by
  obtain ⟨A, k, h1, h2, h3, h4, h5, h6, h7⟩ := h
  exact ⟨A, k, h1.below hb h1.lt, own_below h2 hb, h3, Nat.lt_of_lt_of_le h4 hb.size, h5, h6, h7⟩

/- Contract: disagreement of package vote. -/

/-- The disagreement with the pairs whose first one stands ahead of place i. -/
def disR (b o : List Nat) : Nat → Nat
  | 0 => 0
  | i + 1 => disR b o i + (o.drop (i + 1)).countP (fun y => Mid.bf b y (o.getD i 0))
/-- .. and with t pairs of place i. -/
def disT (b o : List Nat) (i t : Nat) : Nat := disR b o i + ((o.drop (i + 1)).take t).countP (fun y => Mid.bf b y (o.getD i 0))
theorem disR_dis1 (b o : List Nat) : ∀ i, i ≤ o.length → disR b o i + Mid.dis1 b (o.drop i) = Mid.dis1 b o := by
  intro i
  induction i with
  | zero => intro _; simp [disR]
  | succ i ih =>
    intro hi
    have h := ih (by omega)
    have hd : o.drop i = o.getD i 0 :: o.drop (i + 1) := by
      rw [List.drop_eq_getElem_cons (by omega), List.getD_eq_getElem?_getD, List.getElem?_eq_getElem (by omega)]; rfl
    rw [hd] at h
    simp only [Mid.dis1] at h
    simp only [disR]
    omega
theorem disR_all (b o : List Nat) : disR b o o.length = Mid.dis1 b o := by
  have := disR_dis1 b o o.length (Nat.le_refl _)
  simpa [Mid.dis1] using this
theorem disR_bd {b o : List Nat} (h : o.length ≤ 5) : ∀ i, disR b o i ≤ i * 5 := by
  intro i
  induction i with
  | zero => simp [disR]
  | succ i ih =>
    have h1 := List.countP_le_length (p := fun y => Mid.bf b y (o.getD i 0)) (l := o.drop (i + 1))
    rw [List.length_drop] at h1
    simp only [disR]
    omega
theorem disT_bd {b o : List Nat} (h : o.length ≤ 5) (i t : Nat) : disT b o i t ≤ i * 5 + 5 := by
  have h1 := List.countP_le_length (p := fun y => Mid.bf b y (o.getD i 0)) (l := (o.drop (i + 1)).take t)
  rw [List.length_take, List.length_drop] at h1
  have := disR_bd (b := b) h i
  unfold disT
  omega
theorem disT_succ {b o : List Nat} {i t : Nat} (h : i + 1 + t < o.length) : disT b o i (t + 1) = disT b o i t + if Mid.bf b (o.getD (i + 1 + t) 0) (o.getD i 0) then 1 else 0 := by
  unfold disT
  have hg : (o.drop (i + 1))[t]? = some (o.getD (i + 1 + t) 0) := by
    rw [List.getElem?_drop, List.getD_eq_getElem?_getD, List.getElem?_eq_getElem h]; rfl
  rw [List.take_add_one, hg, List.countP_append]
  simp only [Option.toList_some, List.countP_singleton]
  omega
theorem disT_end {b o : List Nat} {i t : Nat} (h : i + 1 + t = o.length) : disT b o i t = disR b o (i + 1) := by
  unfold disT
  rw [List.take_of_length_le (by rw [List.length_drop]; omega)]
  rfl
theorem dis_take_succ {B : List (List Nat)} {o : List Nat} {r : Nat} (h : r < B.length) : Mid.dis (B.take (r + 1)) o = Mid.dis (B.take r) o + Mid.dis1 (B.getD r []) o := by
  have key : ∀ (B : List (List Nat)) (b : List Nat), Mid.dis (B ++ [b]) o = Mid.dis B o + Mid.dis1 b o := by
    intro B b
    induction B with
    | nil => simp [Mid.dis]
    | cons c B ih => simp only [List.cons_append, Mid.dis, ih]; omega
  have hg : B[r]? = some (B.getD r []) := by rw [List.getD_eq_getElem?_getD, List.getElem?_eq_getElem h]; rfl
  rw [List.take_add_one, hg]
  exact key _ _
theorem dis_bd {o : List Nat} (h : o.length ≤ 5) : ∀ B : List (List Nat), Mid.dis B o ≤ B.length * 25 := by
  intro B
  induction B with
  | nil => simp [Mid.dis]
  | cons b B ih =>
    have := disR_bd (b := b) h o.length
    rw [disR_all] at this
    have : o.length * 5 ≤ 25 := by omega
    simp only [Mid.dis, List.length_cons]
    omega
theorem idxOf_intL (x : Nat) : ∀ b : List Nat, (intL b).idxOf (x : Int) = b.idxOf x := by
  intro b
  induction b with
  | nil => rfl
  | cons y b ih =>
    have h : intL (y :: b) = (y : Int) :: intL b := rfl
    rw [h, List.idxOf_cons, List.idxOf_cons, ih]
    have e : ((y : Int) == (x : Int)) = (y == x) := by
      rw [Bool.eq_iff_iff, beq_iff_eq, beq_iff_eq]; omega
    rw [e]
theorem mem_intL_iff {b : List Nat} {x : Nat} : (x : Int) ∈ intL b ↔ x ∈ b := by
  unfold intL
  rw [List.mem_map]
  constructor
  · rintro ⟨y, hy, h⟩
    have : y = x := by have h' : (y : Int) = (x : Int) := h; omega
    exact this ▸ hy
  · intro h; exact ⟨x, h, rfl⟩
theorem idx_intL {b : List Nat} {x : Nat} (h : x ∈ b) : idx (intL b) (x : Int) = b.idxOf x := by
  unfold idx
  rw [if_pos (mem_intL_iff.2 h), idxOf_intL]

set_option maxRecDepth 100000 in
set_option maxHeartbeats 4000000 in
theorem vdis_any (A : Option Addr) (n cap k : Nat) (O : Option Addr) (co : Nat) (V : List (List Int)) (B : List (List Nat)) (o : List Nat) (w : World) (hB : Blts V k B) (hl : V.length = n) (hV : Mat w A V) (ho : Mid.Odr k o) (hO : Ints w O (intL o)) (hco : k ≤ co) :
    Calls Try.prog 47 #[.slice A n cap, .slice O k co] w fun e w' => e = .returned (.int .i64 (Mid.dis B o : Nat)) ∧ w = w' := by
  have hn9 : 1 ≤ n ∧ n ≤ 9 := by have := hB.hB; have := hB.len; omega
  have hk5 := hB.hn
  have hbl : B.length = n := by have := hB.len; omega
  have hol : o.length = k := ho.len
  obtain ⟨ao, rfl, hao, hcs⟩ := hO.some_ (by rw [intL_length]; omega)
  have hcs' : ∀ i, i < k → w.cell? (ao.add i) = some (.int .i64 ((o.getD i 0 : Nat) : Int)) := fun i hi =>
    hcs i _ (intL_some (by rw [List.getD_eq_getElem?_getD, List.getElem?_eq_getElem (by omega)]; rfl))
  have H := Lib.hid (And.intro hB (And.intro hV (And.intro ho (And.intro hcs' (And.intro hbl hol)))))
  clear hB hV hl hcs hcs' hO ho hbl hol
  go_enter Try.func47, Try.ntmps47
  go_wp2_with fail
  go_loop [5, 14] (fun sv rv => ∃ r : Nat, r ≤ n ∧ rv = .int .i64 r ∧ sv = .int .i64 (Mid.dis (B.take r) o : Nat)) (fun _ rv => n - (intOf rv).toNat)
  case atStart => exact ⟨0, Nat.zero_le _, rfl, rfl⟩
  case round =>
    obtain ⟨r, hr, rfl, rfl⟩ := hrel
    by_cases hlt : r < n
    · have hrB : r < B.length := by have := H.out.2.2.2.2.1; omega
      have hodr := H.out.1.at_ hrB
      have hS := dis_take_succ (o := o) hrB
      have hSb := dis_bd (o := o) (by have := H.out.2.2.2.2.2; omega) (B.take r)
      have hSl : (B.take r).length ≤ 9 := by rw [List.length_take]; have := H.out.2.2.2.2.1; omega
      obtain ⟨S, hSe⟩ : ∃ S, S = Mid.dis (B.take r) o := ⟨_, rfl⟩
      rw [← hSe] at hS hSb ⊢
      have hSb2 : S ≤ 225 := by omega
      obtain ⟨b, hbe⟩ : ∃ b, b = B.getD r [] := ⟨_, rfl⟩
      obtain ⟨ad, A', c, rfl, hcell, hrc, hc2, hI⟩ := H.out.2.1 r _ (H.out.1.get hrB)
      rw [← hbe] at hodr hcell hrc hI hS
      have hlb : (intL b).length = k := by rw [intL_length, hodr.len]
      rw [hlb] at hcell hrc
      have HI := Lib.hid (And.intro hodr (And.intro hI (And.intro hlb hS)))
      have l1 : (r : Int) < (n : Int) := by omega
      clear hodr hbe hI hlb hS hSb hSl hSe
      go_upto_region 6 with fail
      go_loop [5, 20] (fun sv iv => ∃ i : Nat, i ≤ k ∧ iv = .int .i64 i ∧ sv = .int .i64 ((S : Int) + (disR b o i : Nat))) (fun _ iv => k - (intOf iv).toNat)
      case atStart => exact ⟨0, Nat.zero_le _, rfl, by simp [disR]⟩
      case round =>
        obtain ⟨i, hi, rfl, rfl⟩ := hrel
        by_cases hlk : i < k
        · obtain ⟨x, hx⟩ : ∃ x, x = o.getD i 0 := ⟨_, rfl⟩
          have c1 := H.out.2.2.2.1 i hlk
          rw [← hx] at c1
          have hxk : x < k := by rw [hx]; exact H.out.2.2.1.get_lt hlk
          have hix : idx (intL b) (x : Int) = (b.idxOf x : Nat) := idx_intL ((HI.out.1.mem x).2 hxk)
          have HX := Lib.hid (And.intro hx hix)
          have l2 : (i : Int) < (k : Int) := by omega
          have l3 : i + 1 ≤ k := by omega
          have hbx := disR_bd (b := b) (o := o) (by have := H.out.2.2.2.2.2; omega) i
          have e0 : disR b o i = disT b o i 0 := by simp [disT]
          have HE0 := Lib.hid e0
          clear hx hix e0
          by_cases hce : co = i + 1
          · have hke : k = i + 1 := by omega
            have HKE : Hid (disR b o i = disR b o (i + 1)) := Lib.hid (by rw [HE0.out]; exact disT_end (by have := H.out.2.2.2.2.2; omega))
            go_upto_region 9 with fail
            go_loop [5, 30] (fun sv tv => tv = .int .i64 0 ∧ sv = .int .i64 ((S : Int) + (disR b o i : Nat))) (fun _ _ => 0)
            case atStart => exact ⟨rfl, rfl⟩
            case round =>
              obtain ⟨rfl, rfl⟩ := hrel
              go_wp2_with fail
              go_round
              case rel =>
                (repeat apply Exists.intro)
                refine ⟨⟨i + 1, by omega, ?_, ?_⟩, rfl, rfl, rfl, rfl, rfl⟩
                · go_num
                · exact val_int (by have := HKE.out; omega)
              case measure => simp [intOf]
          · have hcl : i + 1 < co := by omega
            go_upto_region 9 with fail
            go_loop [5, 30] (fun sv tv => ∃ t : Nat, t ≤ k - (i + 1) ∧ tv = .int .i64 t ∧ sv = .int .i64 ((S : Int) + (disT b o i t : Nat))) (fun _ tv => k - (i + 1) - (intOf tv).toNat)
            case atStart => exact ⟨0, Nat.zero_le _, rfl, val_int (by have := HE0.out; omega)⟩
            case round =>
              obtain ⟨t, ht, rfl, rfl⟩ := hrel
              by_cases hlu : t < k - (i + 1)
              · obtain ⟨y, hy⟩ : ∃ y, y = o.getD (i + 1 + t) 0 := ⟨_, rfl⟩
                have hcy := H.out.2.2.2.1 (i + 1 + t) (by omega)
                rw [← hy] at hcy
                have hyk : y < k := by rw [hy]; exact H.out.2.2.1.get_lt (by omega)
                have hiy : idx (intL b) (y : Int) = (b.idxOf y : Nat) := idx_intL ((HI.out.1.mem y).2 hyk)
                have c2 : w.cell? { block := ao.block, off := ao.off + (i + 1) + t } = some (.int .i64 (y : Int)) := by
                  have e : ao.add (i + 1 + t) = { block := ao.block, off := ao.off + (i + 1) + t } := by
                    have h0 : ¬ (i + 1 + t = 0) := by omega
                    unfold Addr.add
                    rw [if_neg h0, show ao.off + (i + 1) + t = ao.off + (i + 1 + t) by omega]
                  rwa [e] at hcy
                have hst := disT_succ (b := b) (o := o) (i := i) (t := t) (by have := H.out.2.2.2.2.2; omega)
                rw [← HX.out.1, ← hy] at hst
                have hTb := disT_bd (b := b) (o := o) (by have := H.out.2.2.2.2.2; omega) i t
                obtain ⟨T, hT⟩ : ∃ T, T = disT b o i t := ⟨_, rfl⟩
                rw [← hT] at hst hTb ⊢
                have HY := Lib.hid (And.intro hst hiy)
                have l4 : (t : Int) < ((k - (i + 1) : Nat) : Int) := by omega
                clear hy hcy hst hT hiy
                go_wp2_with fail
                refine (index_any A' k c (intL b) (x : Int) _ HI.out.2.2.1 (by omega) HI.out.2.1).mono ?_
                rintro e w' ⟨rfl, rfl⟩
                rw [HX.out.2]
                go_wp2_with fail
                refine (index_any A' k c (intL b) (y : Int) _ HI.out.2.2.1 (by omega) HI.out.2.1).mono ?_
                rintro e w' ⟨rfl, rfl⟩
                rw [HY.out.2]
                by_cases hb : b.idxOf y < b.idxOf x
                · have HN : Hid (disT b o i (t + 1) = T + 1) := Lib.hid (by rw [HY.out.1, if_pos (show Mid.bf b y x = true from decide_eq_true hb)])
                  have l5 : ((b.idxOf y : Nat) : Int) < ((b.idxOf x : Nat) : Int) := by omega
                  clear hb
                  generalize b.idxOf y = p at l5 ⊢
                  generalize b.idxOf x = q at l5 ⊢
                  go_wp2_with fail
                  go_round
                  case rel => exact ⟨t + 1, by omega, by go_num, val_int (by have := HN.out; omega)⟩
                  case measure => simp [intOf]; omega
                · have HN : Hid (disT b o i (t + 1) = T) := Lib.hid (by rw [HY.out.1, if_neg (by unfold Mid.bf; simpa using hb)]; rfl)
                  have l5 : ¬ ((b.idxOf y : Nat) : Int) < ((b.idxOf x : Nat) : Int) := by omega
                  clear hb
                  generalize b.idxOf y = p at l5 ⊢
                  generalize b.idxOf x = q at l5 ⊢
                  go_wp2_with fail
                  go_round
                  case rel => exact ⟨t + 1, by omega, by go_num, val_int (by have := HN.out; omega)⟩
                  case measure => simp [intOf]; omega
              · obtain rfl : t = k - (i + 1) := by omega
                have l4 : ¬ ((k - (i + 1) : Nat) : Int) < ((k - (i + 1) : Nat) : Int) := by omega
                have HKE : Hid (disT b o i (k - (i + 1)) = disR b o (i + 1)) := Lib.hid (disT_end (by have := H.out.2.2.2.2.2; omega))
                go_wp2_with fail
                go_round
                case rel => exact ⟨i + 1, by omega, by go_num, val_int (by have := HKE.out; omega)⟩
                case measure => simp [intOf]; omega
        · obtain rfl : i = k := by omega
          have l2 : ¬ (i : Int) < (i : Int) := by omega
          have HKE : Hid (S + disR b o i = Mid.dis (B.take (r + 1)) o) := Lib.hid (by
            have h := disR_all b o
            rw [H.out.2.2.2.2.2] at h
            rw [HI.out.2.2.2, h])
          go_wp2_with fail
          go_round
          case rel => exact ⟨r + 1, by omega, by go_num, val_int (by have := HKE.out; omega)⟩
          case measure => simp [intOf]; omega
    · obtain rfl : r = n := by omega
      have l1 : ¬ (r : Int) < (r : Int) := by omega
      have HT : Hid (B.take r = B) := Lib.hid (List.take_of_length_le (by have := H.out.2.2.2.2.1; omega))
      go_wp2_with fail
      go_ret
      exact ⟨by rw [HT.out]; rfl, rfl⟩
end Go.Proofs.Ytpoibiakfjkebaa
