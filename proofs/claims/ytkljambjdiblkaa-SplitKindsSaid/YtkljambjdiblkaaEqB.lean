/- Equality of lists, as a walk decides it. No program. -/
import Derived.Test.YtkljambjdiblkaaMem
namespace Go.Proofs.Ytkljambjdiblkaa

def eqB {α : Type} [DecidableEq α] (a b : List α) : Bool := decide (a = b)
theorem eqB_len {α : Type} [DecidableEq α] {a b : List α} (h : a.length ≠ b.length) : eqB a b = false := by
  unfold eqB; exact decide_eq_false fun e => h (by rw [e])
theorem eqB_at {α : Type} [DecidableEq α] {a b : List α} {k : Nat} {x y : α} (hx : a[k]? = some x) (hy : b[k]? = some y) (h : x ≠ y) : eqB a b = false := by
  unfold eqB; exact decide_eq_false fun e => h (by rw [e, hy] at hx; injection hx with hx; exact hx.symm)
theorem eqB_all {α : Type} [DecidableEq α] {a b : List α} {n : Nat} (ha : a.length = n) (hb : b.length = n) (h : a.take n = b.take n) : eqB a b = true := by
  unfold eqB; apply decide_eq_true
  rwa [List.take_of_length_le (by omega), List.take_of_length_le (by omega)] at h
theorem take_eq_succ {α : Type} {a b : List α} {k : Nat} {x : α} (hx : a[k]? = some x) (hy : b[k]? = some x) (h : a.take k = b.take k) : a.take (k + 1) = b.take (k + 1) := by
  rw [List.take_add_one, List.take_add_one, hx, hy, h]
end Go.Proofs.Ytkljambjdiblkaa
