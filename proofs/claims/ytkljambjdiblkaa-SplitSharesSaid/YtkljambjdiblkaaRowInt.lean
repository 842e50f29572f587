/- An int among a statement's arguments, opened. -/
import Derived.Test.YtkljambjdiblkaaRow
namespace Go.Proofs.Ytkljambjdiblkaa
open Go.ChangeShapes Go.WideShapes Go.ChangeAt Go.RowKit

section
variable {H : Type} {enc : TypeId × Value → H}
set_option maxRecDepth 100000 in
theorem open_intI {W : World} {v : Value} {d : DataW H} {p : List MemPlace} {spare : Nat → Bool} {b b0 : Nat} {r : Reach} (h : DataW.Trod enc Try.prog W b spare true 3 v d p) (hv : Value.okWide Try.prog W r b0 3 v) :
    ∃ i : Int, v = .int .i64 i ∧ -9223372036854775808 ≤ i ∧ i ≤ 9223372036854775807 := by
  obtain ⟨n, h1, _, _, h2⟩ := open_int Try.underlying3 hv h
  refine ⟨n, h1, ?_⟩
  simp [Lit.wf, IntKind.min, IntKind.max, IntKind.signed, IntKind.bits] at h2
  omega
end
end Go.Proofs.Ytkljambjdiblkaa
