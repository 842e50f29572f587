/- Bits of sets of at most a few players, as the walk writes them. No program. -/
import Derived.Test.YtbidboagaoifaaaMem
import Derived.Laws.BitsAllLaws
import Derived.Laws.BitsLemmas
namespace Go.Proofs.Ytbidboagaoifaaa
open Go.RowKit

theorem ofInt_i64 (a : Nat) (ha : a < 9223372036854775808) : (BitVec.ofInt 64 (a : Int)).toNat = a := by
  rw [BitVec.ofInt_natCast, BitVec.toNat_ofNat]; exact Nat.mod_eq_of_lt (by omega)
theorem and_nat (a b : Nat) (ha : a < 9223372036854775808) (hb : b < 9223372036854775808) : bits .and .i64 (a : Int) (b : Int) = ((a &&& b : Nat) : Int) := by
  have hx : a &&& b < 2 ^ 63 := Nat.and_lt_two_pow _ (by omega)
  show IntKind.i64.wrap ((BitVec.ofInt 64 (a : Int) &&& BitVec.ofInt 64 (b : Int)).toNat : Int) = _
  rw [BitVec.toNat_and, ofInt_i64 a ha, ofInt_i64 b hb, IntKind.wrap_i64]
  omega
theorem or_nat (a b : Nat) (ha : a < 9223372036854775808) (hb : b < 9223372036854775808) : bits .or .i64 (a : Int) (b : Int) = ((a ||| b : Nat) : Int) := by
  have hx : a ||| b < 2 ^ 63 := Nat.or_lt_two_pow (by omega) (by omega)
  show IntKind.i64.wrap ((BitVec.ofInt 64 (a : Int) ||| BitVec.ofInt 64 (b : Int)).toNat : Int) = _
  rw [BitVec.toNat_or, ofInt_i64 a ha, ofInt_i64 b hb, IntKind.wrap_i64]
  omega
theorem pow_wrap (x : Nat) (hx : x < 16) : IntKind.i64.wrap ((2 : Int) ^ x) = ((2 ^ x : Nat) : Int) := by
  have : ∀ x : Fin 16, IntKind.i64.wrap ((2 : Int) ^ x.val) = ((2 ^ x.val : Nat) : Int) := by decide +kernel
  exact this ⟨x, hx⟩
theorem pow_lt {x : Nat} (hx : x < 16) : 2 ^ x < 65536 := by
  have : ∀ x : Fin 16, 2 ^ x.val < 65536 := by decide +kernel
  exact this ⟨x, hx⟩
theorem wrapEq (x : Int) : IntKind.i64.wrap x = wrap64 x := by unfold wrap64; rw [IntKind.wrap_i64]
/-- 'set | 1 << x', in the two spellings of the walk. -/
theorem or_pow (set x : Nat) (hs : set < 65536) (hx : x < 16) : bits .or .i64 (set : Int) (IntKind.i64.wrap ((2 : Int) ^ x)) = ((set ||| 2 ^ x : Nat) : Int) := by
  have := pow_lt hx
  rw [pow_wrap x hx, or_nat _ _ (by omega) (by omega)]
theorem or_pow' (set x : Nat) (hs : set < 65536) (hx : x < 16) : bits .or .i64 (set : Int) (wrap64 ((2 : Int) ^ x)) = ((set ||| 2 ^ x : Nat) : Int) := by
  rw [← wrapEq]; exact or_pow set x hs hx
/-- 'set >> k & 1', as the walk writes it. -/
theorem and_shr (set k : Nat) (h : set < 9223372036854775808) : bits .and .i64 ((set : Int) / 2 ^ k) 1 = ((if set.testBit k then 1 else 0 : Nat) : Int) := by
  have e : ((set : Int) / 2 ^ k) = ((set / 2 ^ k : Nat) : Int) := by simp
  have hle : set / 2 ^ k ≤ set := Nat.div_le_self _ _
  have e1 : (1 : Int) = ((1 : Nat) : Int) := rfl
  rw [e, e1, and_nat _ _ (by omega) (by omega), Nat.and_one_is_mod, Nat.testBit_eq_decide_div_mod_eq]
  have : set / 2 ^ k % 2 < 2 := Nat.mod_lt _ (by omega)
  by_cases h1 : set / 2 ^ k % 2 = 1
  · simp [h1]
  · have h0 : set / 2 ^ k % 2 = 0 := by omega
    simp [h0]
theorem and_shr_t {set k : Nat} (h : set < 9223372036854775808) (ht : set.testBit k = true) : (bits .and .i64 ((set : Int) / 2 ^ k) 1 == 1) = true := by
  rw [and_shr set k h, ht]; rfl
theorem and_shr_f {set k : Nat} (h : set < 9223372036854775808) (ht : set.testBit k = false) : (bits .and .i64 ((set : Int) / 2 ^ k) 1 == 1) = false := by
  rw [and_shr set k h, ht]; rfl
theorem or_pow_lt {set x n : Nat} (hs : set < 2 ^ n) (hx : x < n) : set ||| 2 ^ x < 2 ^ n := Nat.or_lt_two_pow hs (Nat.pow_lt_pow_right (by omega) hx)
end Go.Proofs.Ytbidboagaoifaaa
