/-
  No cell of these rows narrows 'for every input' (looked for: loops, veiled, ifaces, maps, wideKeys, modest, calm, conditions, laid).
  DERIVED. THE GIVEN ROWS OF THIS SEAT. 15 by the template 'for every input the law returns true; each argument reads behind the call as it read before'; 0 by the template 'total and deterministic' (their statements: YtkljambjdiblkaaTotals.lean).
  GIVEN WITH THE SEED: the statements are not yours to turn. If you find one false, say at which input.
  Laid BY PROGRAM, IN A SANDBOX (cutbox-rows.mjs): the forced cells as the released guide's own fill.sh prints them over the translation 06fe19a67a9a2de9… (all of the seat's roots in one cut). By AI agents, Wed Nov 11 2026. No macro, syntax, notation, axiom, sorry.
-/
import Derived.Test.YtkljambjdiblkaaChecked
import GoSem.Claim
import GoSem.ClaimJoined
import GoSem.ClaimMapViews
import Derived.JoinedTies
import Derived.KernelRfl
namespace Go.Proofs.Ytkljambjdiblkaa
/- THE CELL 'sum', in the pinned program and in every row, IS THE sha256 OF THE DUMP (.gsa) THAT YtkljambjdiblkaaProg.lean LOADS. Nothing in Lean hashes anything: it is a label: what it is worth is what the hold of that sum in a sandbox is worth. -/
noncomputable def Try.pinned : Pinned := { name := "ytkljambjdiblkaa", sum := "06fe19a67a9a2de9dc88988a0d69e21bf497fa36564cb1a1858757e3c3441848", checked := Try.checked }
namespace Rows
def none {H : Type} : Left H := { results := [], args := [] }

/-- 'corrodylaw01.SplitBetter': WHATEVER THE INPUT: true; the input reads as it did. -/
def splitBetterSpec : ChangeSpec := { name := "splitBetter", fn := fun _ => fun
  | [d1, d2] => { results := [.lit (.bool true)], args := [d1, d2] }
  | _ => none }
def splitBetterRow : OpenClaim := { program := "ytkljambjdiblkaa", sum := "06fe19a67a9a2de9dc88988a0d69e21bf497fa36564cb1a1858757e3c3441848", func := "corrody/corrodylaw01.SplitBetter", spec := "splitBetter", unfollowed := true, recurses := true, apart := false }
def SplitBetterSaid : Prop := splitBetterRow.holds Try.pinned (OpenSpec.ofChange splitBetterSpec)

/-- ITS FALSE NEIGHBOUR: 'it returns false'. Refute it at one input. -/
def splitBetterWrong : ChangeSpec := { name := "splitBetter", fn := fun _ => fun
  | [d1, d2] => { results := [.lit (.bool false)], args := [d1, d2] }
  | _ => none }
def SplitBetterWrongFalsely : Prop := splitBetterRow.holds Try.pinned (OpenSpec.ofChange splitBetterWrong)

/-- 'corrodylaw01.SplitBound': WHATEVER THE INPUT: true; the input reads as it did. -/
def splitBoundSpec : ChangeSpec := { name := "splitBound", fn := fun _ => fun
  | [d1, d2] => { results := [.lit (.bool true)], args := [d1, d2] }
  | _ => none }
def splitBoundRow : OpenClaim := { program := "ytkljambjdiblkaa", sum := "06fe19a67a9a2de9dc88988a0d69e21bf497fa36564cb1a1858757e3c3441848", func := "corrody/corrodylaw01.SplitBound", spec := "splitBound", unfollowed := true, recurses := true, apart := false }
def SplitBoundSaid : Prop := splitBoundRow.holds Try.pinned (OpenSpec.ofChange splitBoundSpec)

/-- ITS FALSE NEIGHBOUR: 'it returns false'. Refute it at one input. -/
def splitBoundWrong : ChangeSpec := { name := "splitBound", fn := fun _ => fun
  | [d1, d2] => { results := [.lit (.bool false)], args := [d1, d2] }
  | _ => none }
def SplitBoundWrongFalsely : Prop := splitBoundRow.holds Try.pinned (OpenSpec.ofChange splitBoundWrong)

/-- 'corrodylaw01.SplitShares': WHATEVER THE INPUT: true; the input reads as it did. -/
def splitSharesSpec : ChangeSpec := { name := "splitShares", fn := fun _ => fun
  | [d1, d2] => { results := [.lit (.bool true)], args := [d1, d2] }
  | _ => none }
def splitSharesRow : OpenClaim := { program := "ytkljambjdiblkaa", sum := "06fe19a67a9a2de9dc88988a0d69e21bf497fa36564cb1a1858757e3c3441848", func := "corrody/corrodylaw01.SplitShares", spec := "splitShares", unfollowed := true, recurses := true, apart := false }
def SplitSharesSaid : Prop := splitSharesRow.holds Try.pinned (OpenSpec.ofChange splitSharesSpec)

/-- ITS FALSE NEIGHBOUR: 'it returns false'. Refute it at one input. -/
def splitSharesWrong : ChangeSpec := { name := "splitShares", fn := fun _ => fun
  | [d1, d2] => { results := [.lit (.bool false)], args := [d1, d2] }
  | _ => none }
def SplitSharesWrongFalsely : Prop := splitSharesRow.holds Try.pinned (OpenSpec.ofChange splitSharesWrong)

/-- 'corrodylaw01.SplitCuts': WHATEVER THE INPUT: true; the input reads as it did. -/
def splitCutsSpec : ChangeSpec := { name := "splitCuts", fn := fun _ => fun
  | [d1, d2] => { results := [.lit (.bool true)], args := [d1, d2] }
  | _ => none }
def splitCutsRow : OpenClaim := { program := "ytkljambjdiblkaa", sum := "06fe19a67a9a2de9dc88988a0d69e21bf497fa36564cb1a1858757e3c3441848", func := "corrody/corrodylaw01.SplitCuts", spec := "splitCuts", unfollowed := true, recurses := true, apart := false }
def SplitCutsSaid : Prop := splitCutsRow.holds Try.pinned (OpenSpec.ofChange splitCutsSpec)

/-- ITS FALSE NEIGHBOUR: 'it returns false'. Refute it at one input. -/
def splitCutsWrong : ChangeSpec := { name := "splitCuts", fn := fun _ => fun
  | [d1, d2] => { results := [.lit (.bool false)], args := [d1, d2] }
  | _ => none }
def SplitCutsWrongFalsely : Prop := splitCutsRow.holds Try.pinned (OpenSpec.ofChange splitCutsWrong)

/-- 'corrodylaw01.SplitTwo': WHATEVER THE INPUT: true; the input reads as it did. -/
def splitTwoSpec : ChangeSpec := { name := "splitTwo", fn := fun _ => fun
  | [d] => { results := [.lit (.bool true)], args := [d] }
  | _ => none }
def splitTwoRow : OpenClaim := { program := "ytkljambjdiblkaa", sum := "06fe19a67a9a2de9dc88988a0d69e21bf497fa36564cb1a1858757e3c3441848", func := "corrody/corrodylaw01.SplitTwo", spec := "splitTwo", unfollowed := true, recurses := true, apart := false }
def SplitTwoSaid : Prop := splitTwoRow.holds Try.pinned (OpenSpec.ofChange splitTwoSpec)

/-- ITS FALSE NEIGHBOUR: 'it returns false'. Refute it at one input. -/
def splitTwoWrong : ChangeSpec := { name := "splitTwo", fn := fun _ => fun
  | [d] => { results := [.lit (.bool false)], args := [d] }
  | _ => none }
def SplitTwoWrongFalsely : Prop := splitTwoRow.holds Try.pinned (OpenSpec.ofChange splitTwoWrong)

/-- 'corrodylaw01.SplitEnvy': WHATEVER THE INPUT: true; the input reads as it did. -/
def splitEnvySpec : ChangeSpec := { name := "splitEnvy", fn := fun _ => fun
  | [d1, d2, d3] => { results := [.lit (.bool true)], args := [d1, d2, d3] }
  | _ => none }
def splitEnvyRow : OpenClaim := { program := "ytkljambjdiblkaa", sum := "06fe19a67a9a2de9dc88988a0d69e21bf497fa36564cb1a1858757e3c3441848", func := "corrody/corrodylaw01.SplitEnvy", spec := "splitEnvy", unfollowed := true, recurses := true, apart := false }
def SplitEnvySaid : Prop := splitEnvyRow.holds Try.pinned (OpenSpec.ofChange splitEnvySpec)

/-- ITS FALSE NEIGHBOUR: 'it returns false'. Refute it at one input. -/
def splitEnvyWrong : ChangeSpec := { name := "splitEnvy", fn := fun _ => fun
  | [d1, d2, d3] => { results := [.lit (.bool false)], args := [d1, d2, d3] }
  | _ => none }
def SplitEnvyWrongFalsely : Prop := splitEnvyRow.holds Try.pinned (OpenSpec.ofChange splitEnvyWrong)

/-- 'corrodylaw01.SplitKinds': WHATEVER THE INPUT: true; the input reads as it did. -/
def splitKindsSpec : ChangeSpec := { name := "splitKinds", fn := fun _ => fun
  | [d1, d2] => { results := [.lit (.bool true)], args := [d1, d2] }
  | _ => none }
def splitKindsRow : OpenClaim := { program := "ytkljambjdiblkaa", sum := "06fe19a67a9a2de9dc88988a0d69e21bf497fa36564cb1a1858757e3c3441848", func := "corrody/corrodylaw01.SplitKinds", spec := "splitKinds", unfollowed := true, recurses := true, apart := false }
def SplitKindsSaid : Prop := splitKindsRow.holds Try.pinned (OpenSpec.ofChange splitKindsSpec)

/-- ITS FALSE NEIGHBOUR: 'it returns false'. Refute it at one input. -/
def splitKindsWrong : ChangeSpec := { name := "splitKinds", fn := fun _ => fun
  | [d1, d2] => { results := [.lit (.bool false)], args := [d1, d2] }
  | _ => none }
def SplitKindsWrongFalsely : Prop := splitKindsRow.holds Try.pinned (OpenSpec.ofChange splitKindsWrong)

/-- 'corrodylaw01.SplitNames': WHATEVER THE INPUT: true; the input reads as it did. -/
def splitNamesSpec : ChangeSpec := { name := "splitNames", fn := fun _ => fun
  | [d1, d2, d3, d4] => { results := [.lit (.bool true)], args := [d1, d2, d3, d4] }
  | _ => none }
def splitNamesRow : OpenClaim := { program := "ytkljambjdiblkaa", sum := "06fe19a67a9a2de9dc88988a0d69e21bf497fa36564cb1a1858757e3c3441848", func := "corrody/corrodylaw01.SplitNames", spec := "splitNames", unfollowed := true, recurses := true, apart := false }
def SplitNamesSaid : Prop := splitNamesRow.holds Try.pinned (OpenSpec.ofChange splitNamesSpec)

/-- ITS FALSE NEIGHBOUR: 'it returns false'. Refute it at one input. -/
def splitNamesWrong : ChangeSpec := { name := "splitNames", fn := fun _ => fun
  | [d1, d2, d3, d4] => { results := [.lit (.bool false)], args := [d1, d2, d3, d4] }
  | _ => none }
def SplitNamesWrongFalsely : Prop := splitNamesRow.holds Try.pinned (OpenSpec.ofChange splitNamesWrong)

/-- 'corrodylaw01.SplitDeals': WHATEVER THE INPUT: true; the input reads as it did. -/
def splitDealsSpec : ChangeSpec := { name := "splitDeals", fn := fun _ => fun
  | [d] => { results := [.lit (.bool true)], args := [d] }
  | _ => none }
def splitDealsRow : OpenClaim := { program := "ytkljambjdiblkaa", sum := "06fe19a67a9a2de9dc88988a0d69e21bf497fa36564cb1a1858757e3c3441848", func := "corrody/corrodylaw01.SplitDeals", spec := "splitDeals", unfollowed := true, recurses := true, apart := false }
def SplitDealsSaid : Prop := splitDealsRow.holds Try.pinned (OpenSpec.ofChange splitDealsSpec)

/-- ITS FALSE NEIGHBOUR: 'it returns false'. Refute it at one input. -/
def splitDealsWrong : ChangeSpec := { name := "splitDeals", fn := fun _ => fun
  | [d] => { results := [.lit (.bool false)], args := [d] }
  | _ => none }
def SplitDealsWrongFalsely : Prop := splitDealsRow.holds Try.pinned (OpenSpec.ofChange splitDealsWrong)

/-- 'corrodylaw01.SplitRounds': WHATEVER THE INPUT: true; the input reads as it did. -/
def splitRoundsSpec : ChangeSpec := { name := "splitRounds", fn := fun _ => fun
  | [d] => { results := [.lit (.bool true)], args := [d] }
  | _ => none }
def splitRoundsRow : OpenClaim := { program := "ytkljambjdiblkaa", sum := "06fe19a67a9a2de9dc88988a0d69e21bf497fa36564cb1a1858757e3c3441848", func := "corrody/corrodylaw01.SplitRounds", spec := "splitRounds", unfollowed := true, recurses := true, apart := false }
def SplitRoundsSaid : Prop := splitRoundsRow.holds Try.pinned (OpenSpec.ofChange splitRoundsSpec)

/-- ITS FALSE NEIGHBOUR: 'it returns false'. Refute it at one input. -/
def splitRoundsWrong : ChangeSpec := { name := "splitRounds", fn := fun _ => fun
  | [d] => { results := [.lit (.bool false)], args := [d] }
  | _ => none }
def SplitRoundsWrongFalsely : Prop := splitRoundsRow.holds Try.pinned (OpenSpec.ofChange splitRoundsWrong)

/-- 'corrodylaw01.SplitOne': WHATEVER THE INPUT: true; the input reads as it did. -/
def splitOneSpec : ChangeSpec := { name := "splitOne", fn := fun _ => fun
  | [d] => { results := [.lit (.bool true)], args := [d] }
  | _ => none }
def splitOneRow : OpenClaim := { program := "ytkljambjdiblkaa", sum := "06fe19a67a9a2de9dc88988a0d69e21bf497fa36564cb1a1858757e3c3441848", func := "corrody/corrodylaw01.SplitOne", spec := "splitOne", unfollowed := true, recurses := true, apart := false }
def SplitOneSaid : Prop := splitOneRow.holds Try.pinned (OpenSpec.ofChange splitOneSpec)

/-- ITS FALSE NEIGHBOUR: 'it returns false'. Refute it at one input. -/
def splitOneWrong : ChangeSpec := { name := "splitOne", fn := fun _ => fun
  | [d] => { results := [.lit (.bool false)], args := [d] }
  | _ => none }
def SplitOneWrongFalsely : Prop := splitOneRow.holds Try.pinned (OpenSpec.ofChange splitOneWrong)

/-- 'corrodylaw01.SplitScaled': WHATEVER THE INPUT: true; the input reads as it did. -/
def splitScaledSpec : ChangeSpec := { name := "splitScaled", fn := fun _ => fun
  | [d1, d2, d3, d4] => { results := [.lit (.bool true)], args := [d1, d2, d3, d4] }
  | _ => none }
def splitScaledRow : OpenClaim := { program := "ytkljambjdiblkaa", sum := "06fe19a67a9a2de9dc88988a0d69e21bf497fa36564cb1a1858757e3c3441848", func := "corrody/corrodylaw01.SplitScaled", spec := "splitScaled", unfollowed := true, recurses := true, apart := false }
def SplitScaledSaid : Prop := splitScaledRow.holds Try.pinned (OpenSpec.ofChange splitScaledSpec)

/-- ITS FALSE NEIGHBOUR: 'it returns false'. Refute it at one input. -/
def splitScaledWrong : ChangeSpec := { name := "splitScaled", fn := fun _ => fun
  | [d1, d2, d3, d4] => { results := [.lit (.bool false)], args := [d1, d2, d3, d4] }
  | _ => none }
def SplitScaledWrongFalsely : Prop := splitScaledRow.holds Try.pinned (OpenSpec.ofChange splitScaledWrong)

/-- 'corrodylaw01.SplitBest': WHATEVER THE INPUT: true; the input reads as it did. -/
def splitBestSpec : ChangeSpec := { name := "splitBest", fn := fun _ => fun
  | [d] => { results := [.lit (.bool true)], args := [d] }
  | _ => none }
def splitBestRow : OpenClaim := { program := "ytkljambjdiblkaa", sum := "06fe19a67a9a2de9dc88988a0d69e21bf497fa36564cb1a1858757e3c3441848", func := "corrody/corrodylaw01.SplitBest", spec := "splitBest", unfollowed := true, recurses := true, apart := false }
def SplitBestSaid : Prop := splitBestRow.holds Try.pinned (OpenSpec.ofChange splitBestSpec)

/-- ITS FALSE NEIGHBOUR: 'it returns false'. Refute it at one input. -/
def splitBestWrong : ChangeSpec := { name := "splitBest", fn := fun _ => fun
  | [d] => { results := [.lit (.bool false)], args := [d] }
  | _ => none }
def SplitBestWrongFalsely : Prop := splitBestRow.holds Try.pinned (OpenSpec.ofChange splitBestWrong)

/-- 'corrodylaw01.SplitLow': WHATEVER THE INPUT: true; the input reads as it did. -/
def splitLowSpec : ChangeSpec := { name := "splitLow", fn := fun _ => fun
  | [d1, d2] => { results := [.lit (.bool true)], args := [d1, d2] }
  | _ => none }
def splitLowRow : OpenClaim := { program := "ytkljambjdiblkaa", sum := "06fe19a67a9a2de9dc88988a0d69e21bf497fa36564cb1a1858757e3c3441848", func := "corrody/corrodylaw01.SplitLow", spec := "splitLow", unfollowed := true, recurses := true, apart := false }
def SplitLowSaid : Prop := splitLowRow.holds Try.pinned (OpenSpec.ofChange splitLowSpec)

/-- ITS FALSE NEIGHBOUR: 'it returns false'. Refute it at one input. -/
def splitLowWrong : ChangeSpec := { name := "splitLow", fn := fun _ => fun
  | [d1, d2] => { results := [.lit (.bool false)], args := [d1, d2] }
  | _ => none }
def SplitLowWrongFalsely : Prop := splitLowRow.holds Try.pinned (OpenSpec.ofChange splitLowWrong)

/-- 'corrodylaw01.SplitPareto': WHATEVER THE INPUT: true; the input reads as it did. -/
def splitParetoSpec : ChangeSpec := { name := "splitPareto", fn := fun _ => fun
  | [d1, d2] => { results := [.lit (.bool true)], args := [d1, d2] }
  | _ => none }
def splitParetoRow : OpenClaim := { program := "ytkljambjdiblkaa", sum := "06fe19a67a9a2de9dc88988a0d69e21bf497fa36564cb1a1858757e3c3441848", func := "corrody/corrodylaw01.SplitPareto", spec := "splitPareto", unfollowed := true, recurses := true, apart := false }
def SplitParetoSaid : Prop := splitParetoRow.holds Try.pinned (OpenSpec.ofChange splitParetoSpec)

/-- ITS FALSE NEIGHBOUR: 'it returns false'. Refute it at one input. -/
def splitParetoWrong : ChangeSpec := { name := "splitPareto", fn := fun _ => fun
  | [d1, d2] => { results := [.lit (.bool false)], args := [d1, d2] }
  | _ => none }
def SplitParetoWrongFalsely : Prop := splitParetoRow.holds Try.pinned (OpenSpec.ofChange splitParetoWrong)

/- THE SECOND FORM. 'bulk': how many values and letters a reading holds, each counted each time it is reached (what is shared counts as often as it is met; a slice's spare places count too). A statement '..UptoSaid' is the law's where the arguments, and the package variables that the reading takes, are together of bulk at most 1048576: NARROWER than '..Said'. Prove '..Said' where nothing that the law and all that it calls make is longer than what came in: it says more and counts as full. Else prove '..UptoSaid'. A law counts once. -/
mutual
def uptoBulk {H : Type} : DataW H → Nat
  | .lit (.string bytes) => bytes.length + 1
  | .lit _ => 1
  | .nil => 1
  | .ptr d => uptoBulk d + 1
  | .slice elems spare => uptoBulkAll elems + uptoBulkAll spare + 1
  | .agg parts => uptoBulkAll parts + 1
  | .iface _ d => uptoBulk d + 1
  | .map entries => uptoBulkEntries entries + 1
  | .held _ => 1
def uptoBulkAll {H : Type} : List (DataW H) → Nat
  | [] => 0
  | d :: r => uptoBulk d + uptoBulkAll r
def uptoBulkEntries {H : Type} : List (Lit × DataW H) → Nat
  | [] => 0
  | x :: r => uptoBulkEntry x + uptoBulkEntries r
def uptoBulkEntry {H : Type} : Lit × DataW H → Nat
  | (.string bytes, d) => bytes.length + uptoBulk d + 1
  | (_, d) => uptoBulk d + 1
 end
def uptoSmall : (H : Type) → List (DataW H) → Bool := fun _ ds => decide (uptoBulkAll ds ≤ 1048576)
def OpenSpec.upto (s : _root_.Go.ChangeSpec) : _root_.Go.OpenSpec := { _root_.Go.OpenSpec.ofChange s with cond := some uptoSmall }

/-- 'corrodylaw01.SplitBetter', WHERE WHAT IT READS IS OF BULK AT MOST 1048576: true; the input reads as it did. -/
def splitBetterUptoRow : OpenClaim := { program := "ytkljambjdiblkaa", sum := "06fe19a67a9a2de9dc88988a0d69e21bf497fa36564cb1a1858757e3c3441848", func := "corrody/corrodylaw01.SplitBetter", spec := "splitBetter", unfollowed := true, recurses := true, apart := false, narrowed := true }
def SplitBetterUptoSaid : Prop := splitBetterUptoRow.holds Try.pinned (OpenSpec.upto splitBetterSpec)

/-- 'corrodylaw01.SplitBound', WHERE WHAT IT READS IS OF BULK AT MOST 1048576: true; the input reads as it did. -/
def splitBoundUptoRow : OpenClaim := { program := "ytkljambjdiblkaa", sum := "06fe19a67a9a2de9dc88988a0d69e21bf497fa36564cb1a1858757e3c3441848", func := "corrody/corrodylaw01.SplitBound", spec := "splitBound", unfollowed := true, recurses := true, apart := false, narrowed := true }
def SplitBoundUptoSaid : Prop := splitBoundUptoRow.holds Try.pinned (OpenSpec.upto splitBoundSpec)

/-- 'corrodylaw01.SplitShares', WHERE WHAT IT READS IS OF BULK AT MOST 1048576: true; the input reads as it did. -/
def splitSharesUptoRow : OpenClaim := { program := "ytkljambjdiblkaa", sum := "06fe19a67a9a2de9dc88988a0d69e21bf497fa36564cb1a1858757e3c3441848", func := "corrody/corrodylaw01.SplitShares", spec := "splitShares", unfollowed := true, recurses := true, apart := false, narrowed := true }
def SplitSharesUptoSaid : Prop := splitSharesUptoRow.holds Try.pinned (OpenSpec.upto splitSharesSpec)

/-- 'corrodylaw01.SplitCuts', WHERE WHAT IT READS IS OF BULK AT MOST 1048576: true; the input reads as it did. -/
def splitCutsUptoRow : OpenClaim := { program := "ytkljambjdiblkaa", sum := "06fe19a67a9a2de9dc88988a0d69e21bf497fa36564cb1a1858757e3c3441848", func := "corrody/corrodylaw01.SplitCuts", spec := "splitCuts", unfollowed := true, recurses := true, apart := false, narrowed := true }
def SplitCutsUptoSaid : Prop := splitCutsUptoRow.holds Try.pinned (OpenSpec.upto splitCutsSpec)

/-- 'corrodylaw01.SplitTwo', WHERE WHAT IT READS IS OF BULK AT MOST 1048576: true; the input reads as it did. -/
def splitTwoUptoRow : OpenClaim := { program := "ytkljambjdiblkaa", sum := "06fe19a67a9a2de9dc88988a0d69e21bf497fa36564cb1a1858757e3c3441848", func := "corrody/corrodylaw01.SplitTwo", spec := "splitTwo", unfollowed := true, recurses := true, apart := false, narrowed := true }
def SplitTwoUptoSaid : Prop := splitTwoUptoRow.holds Try.pinned (OpenSpec.upto splitTwoSpec)

/-- 'corrodylaw01.SplitEnvy', WHERE WHAT IT READS IS OF BULK AT MOST 1048576: true; the input reads as it did. -/
def splitEnvyUptoRow : OpenClaim := { program := "ytkljambjdiblkaa", sum := "06fe19a67a9a2de9dc88988a0d69e21bf497fa36564cb1a1858757e3c3441848", func := "corrody/corrodylaw01.SplitEnvy", spec := "splitEnvy", unfollowed := true, recurses := true, apart := false, narrowed := true }
def SplitEnvyUptoSaid : Prop := splitEnvyUptoRow.holds Try.pinned (OpenSpec.upto splitEnvySpec)

/-- 'corrodylaw01.SplitKinds', WHERE WHAT IT READS IS OF BULK AT MOST 1048576: true; the input reads as it did. -/
def splitKindsUptoRow : OpenClaim := { program := "ytkljambjdiblkaa", sum := "06fe19a67a9a2de9dc88988a0d69e21bf497fa36564cb1a1858757e3c3441848", func := "corrody/corrodylaw01.SplitKinds", spec := "splitKinds", unfollowed := true, recurses := true, apart := false, narrowed := true }
def SplitKindsUptoSaid : Prop := splitKindsUptoRow.holds Try.pinned (OpenSpec.upto splitKindsSpec)

/-- 'corrodylaw01.SplitNames', WHERE WHAT IT READS IS OF BULK AT MOST 1048576: true; the input reads as it did. -/
def splitNamesUptoRow : OpenClaim := { program := "ytkljambjdiblkaa", sum := "06fe19a67a9a2de9dc88988a0d69e21bf497fa36564cb1a1858757e3c3441848", func := "corrody/corrodylaw01.SplitNames", spec := "splitNames", unfollowed := true, recurses := true, apart := false, narrowed := true }
def SplitNamesUptoSaid : Prop := splitNamesUptoRow.holds Try.pinned (OpenSpec.upto splitNamesSpec)

/-- 'corrodylaw01.SplitDeals', WHERE WHAT IT READS IS OF BULK AT MOST 1048576: true; the input reads as it did. -/
def splitDealsUptoRow : OpenClaim := { program := "ytkljambjdiblkaa", sum := "06fe19a67a9a2de9dc88988a0d69e21bf497fa36564cb1a1858757e3c3441848", func := "corrody/corrodylaw01.SplitDeals", spec := "splitDeals", unfollowed := true, recurses := true, apart := false, narrowed := true }
def SplitDealsUptoSaid : Prop := splitDealsUptoRow.holds Try.pinned (OpenSpec.upto splitDealsSpec)

/-- 'corrodylaw01.SplitRounds', WHERE WHAT IT READS IS OF BULK AT MOST 1048576: true; the input reads as it did. -/
def splitRoundsUptoRow : OpenClaim := { program := "ytkljambjdiblkaa", sum := "06fe19a67a9a2de9dc88988a0d69e21bf497fa36564cb1a1858757e3c3441848", func := "corrody/corrodylaw01.SplitRounds", spec := "splitRounds", unfollowed := true, recurses := true, apart := false, narrowed := true }
def SplitRoundsUptoSaid : Prop := splitRoundsUptoRow.holds Try.pinned (OpenSpec.upto splitRoundsSpec)

/-- 'corrodylaw01.SplitOne', WHERE WHAT IT READS IS OF BULK AT MOST 1048576: true; the input reads as it did. -/
def splitOneUptoRow : OpenClaim := { program := "ytkljambjdiblkaa", sum := "06fe19a67a9a2de9dc88988a0d69e21bf497fa36564cb1a1858757e3c3441848", func := "corrody/corrodylaw01.SplitOne", spec := "splitOne", unfollowed := true, recurses := true, apart := false, narrowed := true }
def SplitOneUptoSaid : Prop := splitOneUptoRow.holds Try.pinned (OpenSpec.upto splitOneSpec)

/-- 'corrodylaw01.SplitScaled', WHERE WHAT IT READS IS OF BULK AT MOST 1048576: true; the input reads as it did. -/
def splitScaledUptoRow : OpenClaim := { program := "ytkljambjdiblkaa", sum := "06fe19a67a9a2de9dc88988a0d69e21bf497fa36564cb1a1858757e3c3441848", func := "corrody/corrodylaw01.SplitScaled", spec := "splitScaled", unfollowed := true, recurses := true, apart := false, narrowed := true }
def SplitScaledUptoSaid : Prop := splitScaledUptoRow.holds Try.pinned (OpenSpec.upto splitScaledSpec)

/-- 'corrodylaw01.SplitBest', WHERE WHAT IT READS IS OF BULK AT MOST 1048576: true; the input reads as it did. -/
def splitBestUptoRow : OpenClaim := { program := "ytkljambjdiblkaa", sum := "06fe19a67a9a2de9dc88988a0d69e21bf497fa36564cb1a1858757e3c3441848", func := "corrody/corrodylaw01.SplitBest", spec := "splitBest", unfollowed := true, recurses := true, apart := false, narrowed := true }
def SplitBestUptoSaid : Prop := splitBestUptoRow.holds Try.pinned (OpenSpec.upto splitBestSpec)

/-- 'corrodylaw01.SplitLow', WHERE WHAT IT READS IS OF BULK AT MOST 1048576: true; the input reads as it did. -/
def splitLowUptoRow : OpenClaim := { program := "ytkljambjdiblkaa", sum := "06fe19a67a9a2de9dc88988a0d69e21bf497fa36564cb1a1858757e3c3441848", func := "corrody/corrodylaw01.SplitLow", spec := "splitLow", unfollowed := true, recurses := true, apart := false, narrowed := true }
def SplitLowUptoSaid : Prop := splitLowUptoRow.holds Try.pinned (OpenSpec.upto splitLowSpec)

/-- 'corrodylaw01.SplitPareto', WHERE WHAT IT READS IS OF BULK AT MOST 1048576: true; the input reads as it did. -/
def splitParetoUptoRow : OpenClaim := { program := "ytkljambjdiblkaa", sum := "06fe19a67a9a2de9dc88988a0d69e21bf497fa36564cb1a1858757e3c3441848", func := "corrody/corrodylaw01.SplitPareto", spec := "splitPareto", unfollowed := true, recurses := true, apart := false, narrowed := true }
def SplitParetoUptoSaid : Prop := splitParetoUptoRow.holds Try.pinned (OpenSpec.upto splitParetoSpec)

end Rows
end Go.Proofs.Ytkljambjdiblkaa
