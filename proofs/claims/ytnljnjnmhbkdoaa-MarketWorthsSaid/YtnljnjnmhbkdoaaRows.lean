/-
  No cell of these rows narrows 'for every input' (looked for: loops, veiled, ifaces, maps, wideKeys, modest, calm, conditions, laid).
  DERIVED. THE GIVEN ROWS OF THIS SEAT. 11 by the template 'for every input the law returns true; each argument reads behind the call as it read before'; 0 by the template 'total and deterministic' (their statements: YtnljnjnmhbkdoaaTotals.lean).
  GIVEN WITH THE SEED: the statements are not yours to turn. If you find one false, say at which input.
  Laid BY PROGRAM, IN A SANDBOX (cutbox-rows.mjs): the forced cells as the released guide's own fill.sh prints them over the translation 873a772525e3f3de… (all of the seat's roots in one cut). By AI agents, Wed Nov 11 2026. No macro, syntax, notation, axiom, sorry.
-/
import Derived.Test.YtnljnjnmhbkdoaaChecked
import GoSem.Claim
import GoSem.ClaimJoined
import GoSem.ClaimMapViews
import Derived.JoinedTies
import Derived.KernelRfl
namespace Go.Proofs.Ytnljnjnmhbkdoaa
/- THE CELL 'sum', in the pinned program and in every row, IS THE sha256 OF THE DUMP (.gsa) THAT YtnljnjnmhbkdoaaProg.lean LOADS. Nothing in Lean hashes anything: it is a label: what it is worth is what the hold of that sum in a sandbox is worth. -/
noncomputable def Try.pinned : Pinned := { name := "ytnljnjnmhbkdoaa", sum := "873a772525e3f3de8b439f97f00783cbd8f38901d5cd80629d3b22c689ce1464", checked := Try.checked }
namespace Rows
def none {H : Type} : Left H := { results := [], args := [] }

/-- 'corrodylaw04.MarketUnits': WHATEVER THE INPUT: true; the input reads as it did. -/
def marketUnitsSpec : ChangeSpec := { name := "marketUnits", fn := fun _ => fun
  | [d1, d2, d3] => { results := [.lit (.bool true)], args := [d1, d2, d3] }
  | _ => none }
def marketUnitsRow : OpenClaim := { program := "ytnljnjnmhbkdoaa", sum := "873a772525e3f3de8b439f97f00783cbd8f38901d5cd80629d3b22c689ce1464", func := "corrody/corrodylaw04.MarketUnits", spec := "marketUnits", unfollowed := true, recurses := true, plainKeys := false, apart := false }
def MarketUnitsSaid : Prop := marketUnitsRow.holds Try.pinned (OpenSpec.ofChange marketUnitsSpec)

/-- ITS FALSE NEIGHBOUR: 'it returns false'. Refute it at one input. -/
def marketUnitsWrong : ChangeSpec := { name := "marketUnits", fn := fun _ => fun
  | [d1, d2, d3] => { results := [.lit (.bool false)], args := [d1, d2, d3] }
  | _ => none }
def MarketUnitsWrongFalsely : Prop := marketUnitsRow.holds Try.pinned (OpenSpec.ofChange marketUnitsWrong)

/-- 'corrodylaw04.MarketMore': WHATEVER THE INPUT: true; the input reads as it did. -/
def marketMoreSpec : ChangeSpec := { name := "marketMore", fn := fun _ => fun
  | [d1, d2, d3] => { results := [.lit (.bool true)], args := [d1, d2, d3] }
  | _ => none }
def marketMoreRow : OpenClaim := { program := "ytnljnjnmhbkdoaa", sum := "873a772525e3f3de8b439f97f00783cbd8f38901d5cd80629d3b22c689ce1464", func := "corrody/corrodylaw04.MarketMore", spec := "marketMore", unfollowed := true, recurses := true, plainKeys := false, apart := false }
def MarketMoreSaid : Prop := marketMoreRow.holds Try.pinned (OpenSpec.ofChange marketMoreSpec)

/-- ITS FALSE NEIGHBOUR: 'it returns false'. Refute it at one input. -/
def marketMoreWrong : ChangeSpec := { name := "marketMore", fn := fun _ => fun
  | [d1, d2, d3] => { results := [.lit (.bool false)], args := [d1, d2, d3] }
  | _ => none }
def MarketMoreWrongFalsely : Prop := marketMoreRow.holds Try.pinned (OpenSpec.ofChange marketMoreWrong)

/-- 'corrodylaw04.MarketAlike': WHATEVER THE INPUT: true; the input reads as it did. -/
def marketAlikeSpec : ChangeSpec := { name := "marketAlike", fn := fun _ => fun
  | [d1, d2, d3] => { results := [.lit (.bool true)], args := [d1, d2, d3] }
  | _ => none }
def marketAlikeRow : OpenClaim := { program := "ytnljnjnmhbkdoaa", sum := "873a772525e3f3de8b439f97f00783cbd8f38901d5cd80629d3b22c689ce1464", func := "corrody/corrodylaw04.MarketAlike", spec := "marketAlike", unfollowed := true, recurses := true, plainKeys := false, apart := false }
def MarketAlikeSaid : Prop := marketAlikeRow.holds Try.pinned (OpenSpec.ofChange marketAlikeSpec)

/-- ITS FALSE NEIGHBOUR: 'it returns false'. Refute it at one input. -/
def marketAlikeWrong : ChangeSpec := { name := "marketAlike", fn := fun _ => fun
  | [d1, d2, d3] => { results := [.lit (.bool false)], args := [d1, d2, d3] }
  | _ => none }
def MarketAlikeWrongFalsely : Prop := marketAlikeRow.holds Try.pinned (OpenSpec.ofChange marketAlikeWrong)

/-- 'corrodylaw04.MarketPrices': WHATEVER THE INPUT: true; the input reads as it did. -/
def marketPricesSpec : ChangeSpec := { name := "marketPrices", fn := fun _ => fun
  | [d] => { results := [.lit (.bool true)], args := [d] }
  | _ => none }
def marketPricesRow : OpenClaim := { program := "ytnljnjnmhbkdoaa", sum := "873a772525e3f3de8b439f97f00783cbd8f38901d5cd80629d3b22c689ce1464", func := "corrody/corrodylaw04.MarketPrices", spec := "marketPrices", unfollowed := true, recurses := true, plainKeys := false, apart := false }
def MarketPricesSaid : Prop := marketPricesRow.holds Try.pinned (OpenSpec.ofChange marketPricesSpec)

/-- ITS FALSE NEIGHBOUR: 'it returns false'. Refute it at one input. -/
def marketPricesWrong : ChangeSpec := { name := "marketPrices", fn := fun _ => fun
  | [d] => { results := [.lit (.bool false)], args := [d] }
  | _ => none }
def MarketPricesWrongFalsely : Prop := marketPricesRow.holds Try.pinned (OpenSpec.ofChange marketPricesWrong)

/-- 'corrodylaw04.MarketWorths': WHATEVER THE INPUT: true; the input reads as it did. -/
def marketWorthsSpec : ChangeSpec := { name := "marketWorths", fn := fun _ => fun
  | [d] => { results := [.lit (.bool true)], args := [d] }
  | _ => none }
def marketWorthsRow : OpenClaim := { program := "ytnljnjnmhbkdoaa", sum := "873a772525e3f3de8b439f97f00783cbd8f38901d5cd80629d3b22c689ce1464", func := "corrody/corrodylaw04.MarketWorths", spec := "marketWorths", unfollowed := true, recurses := true, plainKeys := false, apart := false }
def MarketWorthsSaid : Prop := marketWorthsRow.holds Try.pinned (OpenSpec.ofChange marketWorthsSpec)

/-- ITS FALSE NEIGHBOUR: 'it returns false'. Refute it at one input. -/
def marketWorthsWrong : ChangeSpec := { name := "marketWorths", fn := fun _ => fun
  | [d] => { results := [.lit (.bool false)], args := [d] }
  | _ => none }
def MarketWorthsWrongFalsely : Prop := marketWorthsRow.holds Try.pinned (OpenSpec.ofChange marketWorthsWrong)

/-- 'corrodylaw04.MarketFair': WHATEVER THE INPUT: true; the input reads as it did. -/
def marketFairSpec : ChangeSpec := { name := "marketFair", fn := fun _ => fun
  | [d] => { results := [.lit (.bool true)], args := [d] }
  | _ => none }
def marketFairRow : OpenClaim := { program := "ytnljnjnmhbkdoaa", sum := "873a772525e3f3de8b439f97f00783cbd8f38901d5cd80629d3b22c689ce1464", func := "corrody/corrodylaw04.MarketFair", spec := "marketFair", unfollowed := true, recurses := true, plainKeys := false, apart := false }
def MarketFairSaid : Prop := marketFairRow.holds Try.pinned (OpenSpec.ofChange marketFairSpec)

/-- ITS FALSE NEIGHBOUR: 'it returns false'. Refute it at one input. -/
def marketFairWrong : ChangeSpec := { name := "marketFair", fn := fun _ => fun
  | [d] => { results := [.lit (.bool false)], args := [d] }
  | _ => none }
def MarketFairWrongFalsely : Prop := marketFairRow.holds Try.pinned (OpenSpec.ofChange marketFairWrong)

/-- 'corrodylaw04.MarketSplit': WHATEVER THE INPUT: true; the input reads as it did. -/
def marketSplitSpec : ChangeSpec := { name := "marketSplit", fn := fun _ => fun
  | [d1, d2] => { results := [.lit (.bool true)], args := [d1, d2] }
  | _ => none }
def marketSplitRow : OpenClaim := { program := "ytnljnjnmhbkdoaa", sum := "873a772525e3f3de8b439f97f00783cbd8f38901d5cd80629d3b22c689ce1464", func := "corrody/corrodylaw04.MarketSplit", spec := "marketSplit", unfollowed := true, recurses := true, plainKeys := false, apart := false }
def MarketSplitSaid : Prop := marketSplitRow.holds Try.pinned (OpenSpec.ofChange marketSplitSpec)

/-- ITS FALSE NEIGHBOUR: 'it returns false'. Refute it at one input. -/
def marketSplitWrong : ChangeSpec := { name := "marketSplit", fn := fun _ => fun
  | [d1, d2] => { results := [.lit (.bool false)], args := [d1, d2] }
  | _ => none }
def MarketSplitWrongFalsely : Prop := marketSplitRow.holds Try.pinned (OpenSpec.ofChange marketSplitWrong)

/-- 'corrodylaw04.MarketWants': WHATEVER THE INPUT: true; the input reads as it did. -/
def marketWantsSpec : ChangeSpec := { name := "marketWants", fn := fun _ => fun
  | [d1, d2] => { results := [.lit (.bool true)], args := [d1, d2] }
  | _ => none }
def marketWantsRow : OpenClaim := { program := "ytnljnjnmhbkdoaa", sum := "873a772525e3f3de8b439f97f00783cbd8f38901d5cd80629d3b22c689ce1464", func := "corrody/corrodylaw04.MarketWants", spec := "marketWants", unfollowed := true, recurses := true, plainKeys := false, apart := false }
def MarketWantsSaid : Prop := marketWantsRow.holds Try.pinned (OpenSpec.ofChange marketWantsSpec)

/-- ITS FALSE NEIGHBOUR: 'it returns false'. Refute it at one input. -/
def marketWantsWrong : ChangeSpec := { name := "marketWants", fn := fun _ => fun
  | [d1, d2] => { results := [.lit (.bool false)], args := [d1, d2] }
  | _ => none }
def MarketWantsWrongFalsely : Prop := marketWantsRow.holds Try.pinned (OpenSpec.ofChange marketWantsWrong)

/-- 'corrodylaw04.MarketChecks': WHATEVER THE INPUT: true; the input reads as it did. -/
def marketChecksSpec : ChangeSpec := { name := "marketChecks", fn := fun _ => fun
  | [d1, d2, d3] => { results := [.lit (.bool true)], args := [d1, d2, d3] }
  | _ => none }
def marketChecksRow : OpenClaim := { program := "ytnljnjnmhbkdoaa", sum := "873a772525e3f3de8b439f97f00783cbd8f38901d5cd80629d3b22c689ce1464", func := "corrody/corrodylaw04.MarketChecks", spec := "marketChecks", unfollowed := true, recurses := true, plainKeys := false, apart := false }
def MarketChecksSaid : Prop := marketChecksRow.holds Try.pinned (OpenSpec.ofChange marketChecksSpec)

/-- ITS FALSE NEIGHBOUR: 'it returns false'. Refute it at one input. -/
def marketChecksWrong : ChangeSpec := { name := "marketChecks", fn := fun _ => fun
  | [d1, d2, d3] => { results := [.lit (.bool false)], args := [d1, d2, d3] }
  | _ => none }
def MarketChecksWrongFalsely : Prop := marketChecksRow.holds Try.pinned (OpenSpec.ofChange marketChecksWrong)

/-- 'corrodylaw04.MarketBest': WHATEVER THE INPUT: true; the input reads as it did. -/
def marketBestSpec : ChangeSpec := { name := "marketBest", fn := fun _ => fun
  | [d] => { results := [.lit (.bool true)], args := [d] }
  | _ => none }
def marketBestRow : OpenClaim := { program := "ytnljnjnmhbkdoaa", sum := "873a772525e3f3de8b439f97f00783cbd8f38901d5cd80629d3b22c689ce1464", func := "corrody/corrodylaw04.MarketBest", spec := "marketBest", unfollowed := true, recurses := true, plainKeys := false, apart := false }
def MarketBestSaid : Prop := marketBestRow.holds Try.pinned (OpenSpec.ofChange marketBestSpec)

/-- ITS FALSE NEIGHBOUR: 'it returns false'. Refute it at one input. -/
def marketBestWrong : ChangeSpec := { name := "marketBest", fn := fun _ => fun
  | [d] => { results := [.lit (.bool false)], args := [d] }
  | _ => none }
def MarketBestWrongFalsely : Prop := marketBestRow.holds Try.pinned (OpenSpec.ofChange marketBestWrong)

/-- 'corrodylaw04.MarketBalances': WHATEVER THE INPUT: true; the input reads as it did. -/
def marketBalancesSpec : ChangeSpec := { name := "marketBalances", fn := fun _ => fun
  | [d1, d2, d3] => { results := [.lit (.bool true)], args := [d1, d2, d3] }
  | _ => none }
def marketBalancesRow : OpenClaim := { program := "ytnljnjnmhbkdoaa", sum := "873a772525e3f3de8b439f97f00783cbd8f38901d5cd80629d3b22c689ce1464", func := "corrody/corrodylaw04.MarketBalances", spec := "marketBalances", unfollowed := true, recurses := true, plainKeys := false, apart := false }
def MarketBalancesSaid : Prop := marketBalancesRow.holds Try.pinned (OpenSpec.ofChange marketBalancesSpec)

/-- ITS FALSE NEIGHBOUR: 'it returns false'. Refute it at one input. -/
def marketBalancesWrong : ChangeSpec := { name := "marketBalances", fn := fun _ => fun
  | [d1, d2, d3] => { results := [.lit (.bool false)], args := [d1, d2, d3] }
  | _ => none }
def MarketBalancesWrongFalsely : Prop := marketBalancesRow.holds Try.pinned (OpenSpec.ofChange marketBalancesWrong)

/- THE SECOND FORM. 'bulk': how many values and letters a reading holds, each counted each time it is reached (what is shared counts as often as it is met; a slice's spare places count too). A statement '..UptoSaid' is the law's where the arguments, and the package variables that the reading takes, are together of bulk at most 1048576: NARROWER than '..Said'. Prove '..Said' where nothing that the law and all that it calls make is longer than what came in: it says more and counts as full. Else prove '..UptoSaid'. A law counts once. -/
mutual
def uptoBulk {H : Type} : DataW H → Nat
  | .lit (.string bytes) => bytes.length + 1
  | .lit _ => 1
  | .nil => 1
  | .ptr d => uptoBulk d + 1
  | .slice elems spare => uptoBulkAll elems + uptoBulkAll spare + 1
  | .agg parts => uptoBulkAll parts + 1
  | .iface _ d => uptoBulk d + 1
  | .map entries => uptoBulkEntries entries + 1
  | .held _ => 1
def uptoBulkAll {H : Type} : List (DataW H) → Nat
  | [] => 0
  | d :: r => uptoBulk d + uptoBulkAll r
def uptoBulkEntries {H : Type} : List (Lit × DataW H) → Nat
  | [] => 0
  | x :: r => uptoBulkEntry x + uptoBulkEntries r
def uptoBulkEntry {H : Type} : Lit × DataW H → Nat
  | (.string bytes, d) => bytes.length + uptoBulk d + 1
  | (_, d) => uptoBulk d + 1
 end
def uptoSmall : (H : Type) → List (DataW H) → Bool := fun _ ds => decide (uptoBulkAll ds ≤ 1048576)
def OpenSpec.upto (s : _root_.Go.ChangeSpec) : _root_.Go.OpenSpec := { _root_.Go.OpenSpec.ofChange s with cond := some uptoSmall }

/-- 'corrodylaw04.MarketUnits', WHERE WHAT IT READS IS OF BULK AT MOST 1048576: true; the input reads as it did. -/
def marketUnitsUptoRow : OpenClaim := { program := "ytnljnjnmhbkdoaa", sum := "873a772525e3f3de8b439f97f00783cbd8f38901d5cd80629d3b22c689ce1464", func := "corrody/corrodylaw04.MarketUnits", spec := "marketUnits", unfollowed := true, recurses := true, plainKeys := false, apart := false, narrowed := true }
def MarketUnitsUptoSaid : Prop := marketUnitsUptoRow.holds Try.pinned (OpenSpec.upto marketUnitsSpec)

/-- 'corrodylaw04.MarketMore', WHERE WHAT IT READS IS OF BULK AT MOST 1048576: true; the input reads as it did. -/
def marketMoreUptoRow : OpenClaim := { program := "ytnljnjnmhbkdoaa", sum := "873a772525e3f3de8b439f97f00783cbd8f38901d5cd80629d3b22c689ce1464", func := "corrody/corrodylaw04.MarketMore", spec := "marketMore", unfollowed := true, recurses := true, plainKeys := false, apart := false, narrowed := true }
def MarketMoreUptoSaid : Prop := marketMoreUptoRow.holds Try.pinned (OpenSpec.upto marketMoreSpec)

/-- 'corrodylaw04.MarketAlike', WHERE WHAT IT READS IS OF BULK AT MOST 1048576: true; the input reads as it did. -/
def marketAlikeUptoRow : OpenClaim := { program := "ytnljnjnmhbkdoaa", sum := "873a772525e3f3de8b439f97f00783cbd8f38901d5cd80629d3b22c689ce1464", func := "corrody/corrodylaw04.MarketAlike", spec := "marketAlike", unfollowed := true, recurses := true, plainKeys := false, apart := false, narrowed := true }
def MarketAlikeUptoSaid : Prop := marketAlikeUptoRow.holds Try.pinned (OpenSpec.upto marketAlikeSpec)

/-- 'corrodylaw04.MarketPrices', WHERE WHAT IT READS IS OF BULK AT MOST 1048576: true; the input reads as it did. -/
def marketPricesUptoRow : OpenClaim := { program := "ytnljnjnmhbkdoaa", sum := "873a772525e3f3de8b439f97f00783cbd8f38901d5cd80629d3b22c689ce1464", func := "corrody/corrodylaw04.MarketPrices", spec := "marketPrices", unfollowed := true, recurses := true, plainKeys := false, apart := false, narrowed := true }
def MarketPricesUptoSaid : Prop := marketPricesUptoRow.holds Try.pinned (OpenSpec.upto marketPricesSpec)

/-- 'corrodylaw04.MarketWorths', WHERE WHAT IT READS IS OF BULK AT MOST 1048576: true; the input reads as it did. -/
def marketWorthsUptoRow : OpenClaim := { program := "ytnljnjnmhbkdoaa", sum := "873a772525e3f3de8b439f97f00783cbd8f38901d5cd80629d3b22c689ce1464", func := "corrody/corrodylaw04.MarketWorths", spec := "marketWorths", unfollowed := true, recurses := true, plainKeys := false, apart := false, narrowed := true }
def MarketWorthsUptoSaid : Prop := marketWorthsUptoRow.holds Try.pinned (OpenSpec.upto marketWorthsSpec)

/-- 'corrodylaw04.MarketFair', WHERE WHAT IT READS IS OF BULK AT MOST 1048576: true; the input reads as it did. -/
def marketFairUptoRow : OpenClaim := { program := "ytnljnjnmhbkdoaa", sum := "873a772525e3f3de8b439f97f00783cbd8f38901d5cd80629d3b22c689ce1464", func := "corrody/corrodylaw04.MarketFair", spec := "marketFair", unfollowed := true, recurses := true, plainKeys := false, apart := false, narrowed := true }
def MarketFairUptoSaid : Prop := marketFairUptoRow.holds Try.pinned (OpenSpec.upto marketFairSpec)

/-- 'corrodylaw04.MarketSplit', WHERE WHAT IT READS IS OF BULK AT MOST 1048576: true; the input reads as it did. -/
def marketSplitUptoRow : OpenClaim := { program := "ytnljnjnmhbkdoaa", sum := "873a772525e3f3de8b439f97f00783cbd8f38901d5cd80629d3b22c689ce1464", func := "corrody/corrodylaw04.MarketSplit", spec := "marketSplit", unfollowed := true, recurses := true, plainKeys := false, apart := false, narrowed := true }
def MarketSplitUptoSaid : Prop := marketSplitUptoRow.holds Try.pinned (OpenSpec.upto marketSplitSpec)

/-- 'corrodylaw04.MarketWants', WHERE WHAT IT READS IS OF BULK AT MOST 1048576: true; the input reads as it did. -/
def marketWantsUptoRow : OpenClaim := { program := "ytnljnjnmhbkdoaa", sum := "873a772525e3f3de8b439f97f00783cbd8f38901d5cd80629d3b22c689ce1464", func := "corrody/corrodylaw04.MarketWants", spec := "marketWants", unfollowed := true, recurses := true, plainKeys := false, apart := false, narrowed := true }
def MarketWantsUptoSaid : Prop := marketWantsUptoRow.holds Try.pinned (OpenSpec.upto marketWantsSpec)

/-- 'corrodylaw04.MarketChecks', WHERE WHAT IT READS IS OF BULK AT MOST 1048576: true; the input reads as it did. -/
def marketChecksUptoRow : OpenClaim := { program := "ytnljnjnmhbkdoaa", sum := "873a772525e3f3de8b439f97f00783cbd8f38901d5cd80629d3b22c689ce1464", func := "corrody/corrodylaw04.MarketChecks", spec := "marketChecks", unfollowed := true, recurses := true, plainKeys := false, apart := false, narrowed := true }
def MarketChecksUptoSaid : Prop := marketChecksUptoRow.holds Try.pinned (OpenSpec.upto marketChecksSpec)

/-- 'corrodylaw04.MarketBest', WHERE WHAT IT READS IS OF BULK AT MOST 1048576: true; the input reads as it did. -/
def marketBestUptoRow : OpenClaim := { program := "ytnljnjnmhbkdoaa", sum := "873a772525e3f3de8b439f97f00783cbd8f38901d5cd80629d3b22c689ce1464", func := "corrody/corrodylaw04.MarketBest", spec := "marketBest", unfollowed := true, recurses := true, plainKeys := false, apart := false, narrowed := true }
def MarketBestUptoSaid : Prop := marketBestUptoRow.holds Try.pinned (OpenSpec.upto marketBestSpec)

/-- 'corrodylaw04.MarketBalances', WHERE WHAT IT READS IS OF BULK AT MOST 1048576: true; the input reads as it did. -/
def marketBalancesUptoRow : OpenClaim := { program := "ytnljnjnmhbkdoaa", sum := "873a772525e3f3de8b439f97f00783cbd8f38901d5cd80629d3b22c689ce1464", func := "corrody/corrodylaw04.MarketBalances", spec := "marketBalances", unfollowed := true, recurses := true, plainKeys := false, apart := false, narrowed := true }
def MarketBalancesUptoSaid : Prop := marketBalancesUptoRow.holds Try.pinned (OpenSpec.upto marketBalancesSpec)

end Rows
end Go.Proofs.Ytnljnjnmhbkdoaa
