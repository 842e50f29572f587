/-
  No cell of these rows narrows 'for every input' (looked for: loops, veiled, ifaces, maps, wideKeys, modest, calm, conditions, laid).
  DERIVED. THE GIVEN ROWS OF THIS SEAT. 15 by the template 'for every input the law returns true; each argument reads behind the call as it read before'; 0 by the template 'total and deterministic' (their statements: YtbidboagaoifaaaTotals.lean).
  GIVEN WITH THE SEED: the statements are not yours to turn. If you find one false, say at which input.
  Laid BY PROGRAM, IN A SANDBOX (cutbox-rows.mjs): the forced cells as the released guide's own fill.sh prints them over the translation e0213278a0c60e96… (all of the seat's roots in one cut). By AI agents, Wed Nov 11 2026. No macro, syntax, notation, axiom, sorry.
-/
import Derived.Test.YtbidboagaoifaaaChecked
import GoSem.Claim
import GoSem.ClaimJoined
import GoSem.ClaimMapViews
import Derived.JoinedTies
import Derived.KernelRfl
namespace Go.Proofs.Ytbidboagaoifaaa
/- THE CELL 'sum', in the pinned program and in every row, IS THE sha256 OF THE DUMP (.gsa) THAT YtbidboagaoifaaaProg.lean LOADS. Nothing in Lean hashes anything: it is a label: what it is worth is what the hold of that sum in a sandbox is worth. -/
noncomputable def Try.pinned : Pinned := { name := "ytbidboagaoifaaa", sum := "e0213278a0c60e96a6e68b027178d82ef83cea3e99331e50e9b002ce537f4378", checked := Try.checked }
namespace Rows
def none {H : Type} : Left H := { results := [], args := [] }

/-- 'corrodylaw07.GamesFair': WHATEVER THE INPUT: true; the input reads as it did. -/
def gamesFairSpec : ChangeSpec := { name := "gamesFair", fn := fun _ => fun
  | [d1, d2] => { results := [.lit (.bool true)], args := [d1, d2] }
  | _ => none }
def gamesFairRow : OpenClaim := { program := "ytbidboagaoifaaa", sum := "e0213278a0c60e96a6e68b027178d82ef83cea3e99331e50e9b002ce537f4378", func := "corrody/corrodylaw07.GamesFair", spec := "gamesFair", unfollowed := true, recurses := true, apart := false }
def GamesFairSaid : Prop := gamesFairRow.holds Try.pinned (OpenSpec.ofChange gamesFairSpec)

/-- ITS FALSE NEIGHBOUR: 'it returns false'. Refute it at one input. -/
def gamesFairWrong : ChangeSpec := { name := "gamesFair", fn := fun _ => fun
  | [d1, d2] => { results := [.lit (.bool false)], args := [d1, d2] }
  | _ => none }
def GamesFairWrongFalsely : Prop := gamesFairRow.holds Try.pinned (OpenSpec.ofChange gamesFairWrong)

/-- 'corrodylaw07.GamesConcave': WHATEVER THE INPUT: true; the input reads as it did. -/
def gamesConcaveSpec : ChangeSpec := { name := "gamesConcave", fn := fun _ => fun
  | [d] => { results := [.lit (.bool true)], args := [d] }
  | _ => none }
def gamesConcaveRow : OpenClaim := { program := "ytbidboagaoifaaa", sum := "e0213278a0c60e96a6e68b027178d82ef83cea3e99331e50e9b002ce537f4378", func := "corrody/corrodylaw07.GamesConcave", spec := "gamesConcave", unfollowed := true, recurses := true, apart := false }
def GamesConcaveSaid : Prop := gamesConcaveRow.holds Try.pinned (OpenSpec.ofChange gamesConcaveSpec)

/-- ITS FALSE NEIGHBOUR: 'it returns false'. Refute it at one input. -/
def gamesConcaveWrong : ChangeSpec := { name := "gamesConcave", fn := fun _ => fun
  | [d] => { results := [.lit (.bool false)], args := [d] }
  | _ => none }
def GamesConcaveWrongFalsely : Prop := gamesConcaveRow.holds Try.pinned (OpenSpec.ofChange gamesConcaveWrong)

/-- 'corrodylaw07.GamesShapley': WHATEVER THE INPUT: true; the input reads as it did. -/
def gamesShapleySpec : ChangeSpec := { name := "gamesShapley", fn := fun _ => fun
  | [d1, d2] => { results := [.lit (.bool true)], args := [d1, d2] }
  | _ => none }
def gamesShapleyRow : OpenClaim := { program := "ytbidboagaoifaaa", sum := "e0213278a0c60e96a6e68b027178d82ef83cea3e99331e50e9b002ce537f4378", func := "corrody/corrodylaw07.GamesShapley", spec := "gamesShapley", unfollowed := true, recurses := true, apart := false }
def GamesShapleySaid : Prop := gamesShapleyRow.holds Try.pinned (OpenSpec.ofChange gamesShapleySpec)

/-- ITS FALSE NEIGHBOUR: 'it returns false'. Refute it at one input. -/
def gamesShapleyWrong : ChangeSpec := { name := "gamesShapley", fn := fun _ => fun
  | [d1, d2] => { results := [.lit (.bool false)], args := [d1, d2] }
  | _ => none }
def GamesShapleyWrongFalsely : Prop := gamesShapleyRow.holds Try.pinned (OpenSpec.ofChange gamesShapleyWrong)

/-- 'corrodylaw07.GamesAverage': WHATEVER THE INPUT: true; the input reads as it did. -/
def gamesAverageSpec : ChangeSpec := { name := "gamesAverage", fn := fun _ => fun
  | [d] => { results := [.lit (.bool true)], args := [d] }
  | _ => none }
def gamesAverageRow : OpenClaim := { program := "ytbidboagaoifaaa", sum := "e0213278a0c60e96a6e68b027178d82ef83cea3e99331e50e9b002ce537f4378", func := "corrody/corrodylaw07.GamesAverage", spec := "gamesAverage", unfollowed := true, recurses := true, apart := false }
def GamesAverageSaid : Prop := gamesAverageRow.holds Try.pinned (OpenSpec.ofChange gamesAverageSpec)

/-- ITS FALSE NEIGHBOUR: 'it returns false'. Refute it at one input. -/
def gamesAverageWrong : ChangeSpec := { name := "gamesAverage", fn := fun _ => fun
  | [d] => { results := [.lit (.bool false)], args := [d] }
  | _ => none }
def GamesAverageWrongFalsely : Prop := gamesAverageRow.holds Try.pinned (OpenSpec.ofChange gamesAverageWrong)

/-- 'corrodylaw07.GamesObjects': WHATEVER THE INPUT: true; the input reads as it did. -/
def gamesObjectsSpec : ChangeSpec := { name := "gamesObjects", fn := fun _ => fun
  | [d1, d2] => { results := [.lit (.bool true)], args := [d1, d2] }
  | _ => none }
def gamesObjectsRow : OpenClaim := { program := "ytbidboagaoifaaa", sum := "e0213278a0c60e96a6e68b027178d82ef83cea3e99331e50e9b002ce537f4378", func := "corrody/corrodylaw07.GamesObjects", spec := "gamesObjects", unfollowed := true, recurses := true, apart := false }
def GamesObjectsSaid : Prop := gamesObjectsRow.holds Try.pinned (OpenSpec.ofChange gamesObjectsSpec)

/-- ITS FALSE NEIGHBOUR: 'it returns false'. Refute it at one input. -/
def gamesObjectsWrong : ChangeSpec := { name := "gamesObjects", fn := fun _ => fun
  | [d1, d2] => { results := [.lit (.bool false)], args := [d1, d2] }
  | _ => none }
def GamesObjectsWrongFalsely : Prop := gamesObjectsRow.holds Try.pinned (OpenSpec.ofChange gamesObjectsWrong)

/-- 'corrodylaw07.GamesObjecting': WHATEVER THE INPUT: true; the input reads as it did. -/
def gamesObjectingSpec : ChangeSpec := { name := "gamesObjecting", fn := fun _ => fun
  | [d1, d2] => { results := [.lit (.bool true)], args := [d1, d2] }
  | _ => none }
def gamesObjectingRow : OpenClaim := { program := "ytbidboagaoifaaa", sum := "e0213278a0c60e96a6e68b027178d82ef83cea3e99331e50e9b002ce537f4378", func := "corrody/corrodylaw07.GamesObjecting", spec := "gamesObjecting", unfollowed := true, recurses := true, apart := false }
def GamesObjectingSaid : Prop := gamesObjectingRow.holds Try.pinned (OpenSpec.ofChange gamesObjectingSpec)

/-- ITS FALSE NEIGHBOUR: 'it returns false'. Refute it at one input. -/
def gamesObjectingWrong : ChangeSpec := { name := "gamesObjecting", fn := fun _ => fun
  | [d1, d2] => { results := [.lit (.bool false)], args := [d1, d2] }
  | _ => none }
def GamesObjectingWrongFalsely : Prop := gamesObjectingRow.holds Try.pinned (OpenSpec.ofChange gamesObjectingWrong)

/-- 'corrodylaw07.GamesChecks': WHATEVER THE INPUT: true; the input reads as it did. -/
def gamesChecksSpec : ChangeSpec := { name := "gamesChecks", fn := fun _ => fun
  | [d1, d2, d3] => { results := [.lit (.bool true)], args := [d1, d2, d3] }
  | _ => none }
def gamesChecksRow : OpenClaim := { program := "ytbidboagaoifaaa", sum := "e0213278a0c60e96a6e68b027178d82ef83cea3e99331e50e9b002ce537f4378", func := "corrody/corrodylaw07.GamesChecks", spec := "gamesChecks", unfollowed := true, recurses := true, apart := false }
def GamesChecksSaid : Prop := gamesChecksRow.holds Try.pinned (OpenSpec.ofChange gamesChecksSpec)

/-- ITS FALSE NEIGHBOUR: 'it returns false'. Refute it at one input. -/
def gamesChecksWrong : ChangeSpec := { name := "gamesChecks", fn := fun _ => fun
  | [d1, d2, d3] => { results := [.lit (.bool false)], args := [d1, d2, d3] }
  | _ => none }
def GamesChecksWrongFalsely : Prop := gamesChecksRow.holds Try.pinned (OpenSpec.ofChange gamesChecksWrong)

/-- 'corrodylaw07.GamesPlus': WHATEVER THE INPUT: true; the input reads as it did. -/
def gamesPlusSpec : ChangeSpec := { name := "gamesPlus", fn := fun _ => fun
  | [d1, d2] => { results := [.lit (.bool true)], args := [d1, d2] }
  | _ => none }
def gamesPlusRow : OpenClaim := { program := "ytbidboagaoifaaa", sum := "e0213278a0c60e96a6e68b027178d82ef83cea3e99331e50e9b002ce537f4378", func := "corrody/corrodylaw07.GamesPlus", spec := "gamesPlus", unfollowed := true, recurses := true, apart := false }
def GamesPlusSaid : Prop := gamesPlusRow.holds Try.pinned (OpenSpec.ofChange gamesPlusSpec)

/-- ITS FALSE NEIGHBOUR: 'it returns false'. Refute it at one input. -/
def gamesPlusWrong : ChangeSpec := { name := "gamesPlus", fn := fun _ => fun
  | [d1, d2] => { results := [.lit (.bool false)], args := [d1, d2] }
  | _ => none }
def GamesPlusWrongFalsely : Prop := gamesPlusRow.holds Try.pinned (OpenSpec.ofChange gamesPlusWrong)

/-- 'corrodylaw07.GamesNames': WHATEVER THE INPUT: true; the input reads as it did. -/
def gamesNamesSpec : ChangeSpec := { name := "gamesNames", fn := fun _ => fun
  | [d1, d2] => { results := [.lit (.bool true)], args := [d1, d2] }
  | _ => none }
def gamesNamesRow : OpenClaim := { program := "ytbidboagaoifaaa", sum := "e0213278a0c60e96a6e68b027178d82ef83cea3e99331e50e9b002ce537f4378", func := "corrody/corrodylaw07.GamesNames", spec := "gamesNames", unfollowed := true, recurses := true, apart := false }
def GamesNamesSaid : Prop := gamesNamesRow.holds Try.pinned (OpenSpec.ofChange gamesNamesSpec)

/-- ITS FALSE NEIGHBOUR: 'it returns false'. Refute it at one input. -/
def gamesNamesWrong : ChangeSpec := { name := "gamesNames", fn := fun _ => fun
  | [d1, d2] => { results := [.lit (.bool false)], args := [d1, d2] }
  | _ => none }
def GamesNamesWrongFalsely : Prop := gamesNamesRow.holds Try.pinned (OpenSpec.ofChange gamesNamesWrong)

/-- 'corrodylaw07.GamesTimes': WHATEVER THE INPUT: true; the input reads as it did. -/
def gamesTimesSpec : ChangeSpec := { name := "gamesTimes", fn := fun _ => fun
  | [d1, d2] => { results := [.lit (.bool true)], args := [d1, d2] }
  | _ => none }
def gamesTimesRow : OpenClaim := { program := "ytbidboagaoifaaa", sum := "e0213278a0c60e96a6e68b027178d82ef83cea3e99331e50e9b002ce537f4378", func := "corrody/corrodylaw07.GamesTimes", spec := "gamesTimes", unfollowed := true, recurses := true, apart := false }
def GamesTimesSaid : Prop := gamesTimesRow.holds Try.pinned (OpenSpec.ofChange gamesTimesSpec)

/-- ITS FALSE NEIGHBOUR: 'it returns false'. Refute it at one input. -/
def gamesTimesWrong : ChangeSpec := { name := "gamesTimes", fn := fun _ => fun
  | [d1, d2] => { results := [.lit (.bool false)], args := [d1, d2] }
  | _ => none }
def GamesTimesWrongFalsely : Prop := gamesTimesRow.holds Try.pinned (OpenSpec.ofChange gamesTimesWrong)

/-- 'corrodylaw07.GamesCore': WHATEVER THE INPUT: true; the input reads as it did. -/
def gamesCoreSpec : ChangeSpec := { name := "gamesCore", fn := fun _ => fun
  | [d] => { results := [.lit (.bool true)], args := [d] }
  | _ => none }
def gamesCoreRow : OpenClaim := { program := "ytbidboagaoifaaa", sum := "e0213278a0c60e96a6e68b027178d82ef83cea3e99331e50e9b002ce537f4378", func := "corrody/corrodylaw07.GamesCore", spec := "gamesCore", unfollowed := true, recurses := true, apart := false }
def GamesCoreSaid : Prop := gamesCoreRow.holds Try.pinned (OpenSpec.ofChange gamesCoreSpec)

/-- ITS FALSE NEIGHBOUR: 'it returns false'. Refute it at one input. -/
def gamesCoreWrong : ChangeSpec := { name := "gamesCore", fn := fun _ => fun
  | [d] => { results := [.lit (.bool false)], args := [d] }
  | _ => none }
def GamesCoreWrongFalsely : Prop := gamesCoreRow.holds Try.pinned (OpenSpec.ofChange gamesCoreWrong)

/-- 'corrodylaw07.GamesEither': WHATEVER THE INPUT: true; the input reads as it did. -/
def gamesEitherSpec : ChangeSpec := { name := "gamesEither", fn := fun _ => fun
  | [d1, d2, d3] => { results := [.lit (.bool true)], args := [d1, d2, d3] }
  | _ => none }
def gamesEitherRow : OpenClaim := { program := "ytbidboagaoifaaa", sum := "e0213278a0c60e96a6e68b027178d82ef83cea3e99331e50e9b002ce537f4378", func := "corrody/corrodylaw07.GamesEither", spec := "gamesEither", unfollowed := true, recurses := true, apart := false }
def GamesEitherSaid : Prop := gamesEitherRow.holds Try.pinned (OpenSpec.ofChange gamesEitherSpec)

/-- ITS FALSE NEIGHBOUR: 'it returns false'. Refute it at one input. -/
def gamesEitherWrong : ChangeSpec := { name := "gamesEither", fn := fun _ => fun
  | [d1, d2, d3] => { results := [.lit (.bool false)], args := [d1, d2, d3] }
  | _ => none }
def GamesEitherWrongFalsely : Prop := gamesEitherRow.holds Try.pinned (OpenSpec.ofChange gamesEitherWrong)

/-- 'corrodylaw07.GamesConvex': WHATEVER THE INPUT: true; the input reads as it did. -/
def gamesConvexSpec : ChangeSpec := { name := "gamesConvex", fn := fun _ => fun
  | [d1, d2] => { results := [.lit (.bool true)], args := [d1, d2] }
  | _ => none }
def gamesConvexRow : OpenClaim := { program := "ytbidboagaoifaaa", sum := "e0213278a0c60e96a6e68b027178d82ef83cea3e99331e50e9b002ce537f4378", func := "corrody/corrodylaw07.GamesConvex", spec := "gamesConvex", unfollowed := true, recurses := true, apart := false }
def GamesConvexSaid : Prop := gamesConvexRow.holds Try.pinned (OpenSpec.ofChange gamesConvexSpec)

/-- ITS FALSE NEIGHBOUR: 'it returns false'. Refute it at one input. -/
def gamesConvexWrong : ChangeSpec := { name := "gamesConvex", fn := fun _ => fun
  | [d1, d2] => { results := [.lit (.bool false)], args := [d1, d2] }
  | _ => none }
def GamesConvexWrongFalsely : Prop := gamesConvexRow.holds Try.pinned (OpenSpec.ofChange gamesConvexWrong)

/-- 'corrodylaw07.GamesRoads': WHATEVER THE INPUT: true; the input reads as it did. -/
def gamesRoadsSpec : ChangeSpec := { name := "gamesRoads", fn := fun _ => fun
  | [d] => { results := [.lit (.bool true)], args := [d] }
  | _ => none }
def gamesRoadsRow : OpenClaim := { program := "ytbidboagaoifaaa", sum := "e0213278a0c60e96a6e68b027178d82ef83cea3e99331e50e9b002ce537f4378", func := "corrody/corrodylaw07.GamesRoads", spec := "gamesRoads", unfollowed := true, recurses := true, apart := false }
def GamesRoadsSaid : Prop := gamesRoadsRow.holds Try.pinned (OpenSpec.ofChange gamesRoadsSpec)

/-- ITS FALSE NEIGHBOUR: 'it returns false'. Refute it at one input. -/
def gamesRoadsWrong : ChangeSpec := { name := "gamesRoads", fn := fun _ => fun
  | [d] => { results := [.lit (.bool false)], args := [d] }
  | _ => none }
def GamesRoadsWrongFalsely : Prop := gamesRoadsRow.holds Try.pinned (OpenSpec.ofChange gamesRoadsWrong)

/-- 'corrodylaw07.GamesSerial': WHATEVER THE INPUT: true; the input reads as it did. -/
def gamesSerialSpec : ChangeSpec := { name := "gamesSerial", fn := fun _ => fun
  | [d] => { results := [.lit (.bool true)], args := [d] }
  | _ => none }
def gamesSerialRow : OpenClaim := { program := "ytbidboagaoifaaa", sum := "e0213278a0c60e96a6e68b027178d82ef83cea3e99331e50e9b002ce537f4378", func := "corrody/corrodylaw07.GamesSerial", spec := "gamesSerial", unfollowed := true, recurses := true, apart := false }
def GamesSerialSaid : Prop := gamesSerialRow.holds Try.pinned (OpenSpec.ofChange gamesSerialSpec)

/-- ITS FALSE NEIGHBOUR: 'it returns false'. Refute it at one input. -/
def gamesSerialWrong : ChangeSpec := { name := "gamesSerial", fn := fun _ => fun
  | [d] => { results := [.lit (.bool false)], args := [d] }
  | _ => none }
def GamesSerialWrongFalsely : Prop := gamesSerialRow.holds Try.pinned (OpenSpec.ofChange gamesSerialWrong)

/- THE SECOND FORM. 'bulk': how many values and letters a reading holds, each counted each time it is reached (what is shared counts as often as it is met; a slice's spare places count too). A statement '..UptoSaid' is the law's where the arguments, and the package variables that the reading takes, are together of bulk at most 1048576: NARROWER than '..Said'. Prove '..Said' where nothing that the law and all that it calls make is longer than what came in: it says more and counts as full. Else prove '..UptoSaid'. A law counts once. -/
mutual
def uptoBulk {H : Type} : DataW H → Nat
  | .lit (.string bytes) => bytes.length + 1
  | .lit _ => 1
  | .nil => 1
  | .ptr d => uptoBulk d + 1
  | .slice elems spare => uptoBulkAll elems + uptoBulkAll spare + 1
  | .agg parts => uptoBulkAll parts + 1
  | .iface _ d => uptoBulk d + 1
  | .map entries => uptoBulkEntries entries + 1
  | .held _ => 1
def uptoBulkAll {H : Type} : List (DataW H) → Nat
  | [] => 0
  | d :: r => uptoBulk d + uptoBulkAll r
def uptoBulkEntries {H : Type} : List (Lit × DataW H) → Nat
  | [] => 0
  | x :: r => uptoBulkEntry x + uptoBulkEntries r
def uptoBulkEntry {H : Type} : Lit × DataW H → Nat
  | (.string bytes, d) => bytes.length + uptoBulk d + 1
  | (_, d) => uptoBulk d + 1
 end
def uptoSmall : (H : Type) → List (DataW H) → Bool := fun _ ds => decide (uptoBulkAll ds ≤ 1048576)
def OpenSpec.upto (s : _root_.Go.ChangeSpec) : _root_.Go.OpenSpec := { _root_.Go.OpenSpec.ofChange s with cond := some uptoSmall }

/-- 'corrodylaw07.GamesFair', WHERE WHAT IT READS IS OF BULK AT MOST 1048576: true; the input reads as it did. -/
def gamesFairUptoRow : OpenClaim := { program := "ytbidboagaoifaaa", sum := "e0213278a0c60e96a6e68b027178d82ef83cea3e99331e50e9b002ce537f4378", func := "corrody/corrodylaw07.GamesFair", spec := "gamesFair", unfollowed := true, recurses := true, apart := false, narrowed := true }
def GamesFairUptoSaid : Prop := gamesFairUptoRow.holds Try.pinned (OpenSpec.upto gamesFairSpec)

/-- 'corrodylaw07.GamesConcave', WHERE WHAT IT READS IS OF BULK AT MOST 1048576: true; the input reads as it did. -/
def gamesConcaveUptoRow : OpenClaim := { program := "ytbidboagaoifaaa", sum := "e0213278a0c60e96a6e68b027178d82ef83cea3e99331e50e9b002ce537f4378", func := "corrody/corrodylaw07.GamesConcave", spec := "gamesConcave", unfollowed := true, recurses := true, apart := false, narrowed := true }
def GamesConcaveUptoSaid : Prop := gamesConcaveUptoRow.holds Try.pinned (OpenSpec.upto gamesConcaveSpec)

/-- 'corrodylaw07.GamesShapley', WHERE WHAT IT READS IS OF BULK AT MOST 1048576: true; the input reads as it did. -/
def gamesShapleyUptoRow : OpenClaim := { program := "ytbidboagaoifaaa", sum := "e0213278a0c60e96a6e68b027178d82ef83cea3e99331e50e9b002ce537f4378", func := "corrody/corrodylaw07.GamesShapley", spec := "gamesShapley", unfollowed := true, recurses := true, apart := false, narrowed := true }
def GamesShapleyUptoSaid : Prop := gamesShapleyUptoRow.holds Try.pinned (OpenSpec.upto gamesShapleySpec)

/-- 'corrodylaw07.GamesAverage', WHERE WHAT IT READS IS OF BULK AT MOST 1048576: true; the input reads as it did. -/
def gamesAverageUptoRow : OpenClaim := { program := "ytbidboagaoifaaa", sum := "e0213278a0c60e96a6e68b027178d82ef83cea3e99331e50e9b002ce537f4378", func := "corrody/corrodylaw07.GamesAverage", spec := "gamesAverage", unfollowed := true, recurses := true, apart := false, narrowed := true }
def GamesAverageUptoSaid : Prop := gamesAverageUptoRow.holds Try.pinned (OpenSpec.upto gamesAverageSpec)

/-- 'corrodylaw07.GamesObjects', WHERE WHAT IT READS IS OF BULK AT MOST 1048576: true; the input reads as it did. -/
def gamesObjectsUptoRow : OpenClaim := { program := "ytbidboagaoifaaa", sum := "e0213278a0c60e96a6e68b027178d82ef83cea3e99331e50e9b002ce537f4378", func := "corrody/corrodylaw07.GamesObjects", spec := "gamesObjects", unfollowed := true, recurses := true, apart := false, narrowed := true }
def GamesObjectsUptoSaid : Prop := gamesObjectsUptoRow.holds Try.pinned (OpenSpec.upto gamesObjectsSpec)

/-- 'corrodylaw07.GamesObjecting', WHERE WHAT IT READS IS OF BULK AT MOST 1048576: true; the input reads as it did. -/
def gamesObjectingUptoRow : OpenClaim := { program := "ytbidboagaoifaaa", sum := "e0213278a0c60e96a6e68b027178d82ef83cea3e99331e50e9b002ce537f4378", func := "corrody/corrodylaw07.GamesObjecting", spec := "gamesObjecting", unfollowed := true, recurses := true, apart := false, narrowed := true }
def GamesObjectingUptoSaid : Prop := gamesObjectingUptoRow.holds Try.pinned (OpenSpec.upto gamesObjectingSpec)

/-- 'corrodylaw07.GamesChecks', WHERE WHAT IT READS IS OF BULK AT MOST 1048576: true; the input reads as it did. -/
def gamesChecksUptoRow : OpenClaim := { program := "ytbidboagaoifaaa", sum := "e0213278a0c60e96a6e68b027178d82ef83cea3e99331e50e9b002ce537f4378", func := "corrody/corrodylaw07.GamesChecks", spec := "gamesChecks", unfollowed := true, recurses := true, apart := false, narrowed := true }
def GamesChecksUptoSaid : Prop := gamesChecksUptoRow.holds Try.pinned (OpenSpec.upto gamesChecksSpec)

/-- 'corrodylaw07.GamesPlus', WHERE WHAT IT READS IS OF BULK AT MOST 1048576: true; the input reads as it did. -/
def gamesPlusUptoRow : OpenClaim := { program := "ytbidboagaoifaaa", sum := "e0213278a0c60e96a6e68b027178d82ef83cea3e99331e50e9b002ce537f4378", func := "corrody/corrodylaw07.GamesPlus", spec := "gamesPlus", unfollowed := true, recurses := true, apart := false, narrowed := true }
def GamesPlusUptoSaid : Prop := gamesPlusUptoRow.holds Try.pinned (OpenSpec.upto gamesPlusSpec)

/-- 'corrodylaw07.GamesNames', WHERE WHAT IT READS IS OF BULK AT MOST 1048576: true; the input reads as it did. -/
def gamesNamesUptoRow : OpenClaim := { program := "ytbidboagaoifaaa", sum := "e0213278a0c60e96a6e68b027178d82ef83cea3e99331e50e9b002ce537f4378", func := "corrody/corrodylaw07.GamesNames", spec := "gamesNames", unfollowed := true, recurses := true, apart := false, narrowed := true }
def GamesNamesUptoSaid : Prop := gamesNamesUptoRow.holds Try.pinned (OpenSpec.upto gamesNamesSpec)

/-- 'corrodylaw07.GamesTimes', WHERE WHAT IT READS IS OF BULK AT MOST 1048576: true; the input reads as it did. -/
def gamesTimesUptoRow : OpenClaim := { program := "ytbidboagaoifaaa", sum := "e0213278a0c60e96a6e68b027178d82ef83cea3e99331e50e9b002ce537f4378", func := "corrody/corrodylaw07.GamesTimes", spec := "gamesTimes", unfollowed := true, recurses := true, apart := false, narrowed := true }
def GamesTimesUptoSaid : Prop := gamesTimesUptoRow.holds Try.pinned (OpenSpec.upto gamesTimesSpec)

/-- 'corrodylaw07.GamesCore', WHERE WHAT IT READS IS OF BULK AT MOST 1048576: true; the input reads as it did. -/
def gamesCoreUptoRow : OpenClaim := { program := "ytbidboagaoifaaa", sum := "e0213278a0c60e96a6e68b027178d82ef83cea3e99331e50e9b002ce537f4378", func := "corrody/corrodylaw07.GamesCore", spec := "gamesCore", unfollowed := true, recurses := true, apart := false, narrowed := true }
def GamesCoreUptoSaid : Prop := gamesCoreUptoRow.holds Try.pinned (OpenSpec.upto gamesCoreSpec)

/-- 'corrodylaw07.GamesEither', WHERE WHAT IT READS IS OF BULK AT MOST 1048576: true; the input reads as it did. -/
def gamesEitherUptoRow : OpenClaim := { program := "ytbidboagaoifaaa", sum := "e0213278a0c60e96a6e68b027178d82ef83cea3e99331e50e9b002ce537f4378", func := "corrody/corrodylaw07.GamesEither", spec := "gamesEither", unfollowed := true, recurses := true, apart := false, narrowed := true }
def GamesEitherUptoSaid : Prop := gamesEitherUptoRow.holds Try.pinned (OpenSpec.upto gamesEitherSpec)

/-- 'corrodylaw07.GamesConvex', WHERE WHAT IT READS IS OF BULK AT MOST 1048576: true; the input reads as it did. -/
def gamesConvexUptoRow : OpenClaim := { program := "ytbidboagaoifaaa", sum := "e0213278a0c60e96a6e68b027178d82ef83cea3e99331e50e9b002ce537f4378", func := "corrody/corrodylaw07.GamesConvex", spec := "gamesConvex", unfollowed := true, recurses := true, apart := false, narrowed := true }
def GamesConvexUptoSaid : Prop := gamesConvexUptoRow.holds Try.pinned (OpenSpec.upto gamesConvexSpec)

/-- 'corrodylaw07.GamesRoads', WHERE WHAT IT READS IS OF BULK AT MOST 1048576: true; the input reads as it did. -/
def gamesRoadsUptoRow : OpenClaim := { program := "ytbidboagaoifaaa", sum := "e0213278a0c60e96a6e68b027178d82ef83cea3e99331e50e9b002ce537f4378", func := "corrody/corrodylaw07.GamesRoads", spec := "gamesRoads", unfollowed := true, recurses := true, apart := false, narrowed := true }
def GamesRoadsUptoSaid : Prop := gamesRoadsUptoRow.holds Try.pinned (OpenSpec.upto gamesRoadsSpec)

/-- 'corrodylaw07.GamesSerial', WHERE WHAT IT READS IS OF BULK AT MOST 1048576: true; the input reads as it did. -/
def gamesSerialUptoRow : OpenClaim := { program := "ytbidboagaoifaaa", sum := "e0213278a0c60e96a6e68b027178d82ef83cea3e99331e50e9b002ce537f4378", func := "corrody/corrodylaw07.GamesSerial", spec := "gamesSerial", unfollowed := true, recurses := true, apart := false, narrowed := true }
def GamesSerialUptoSaid : Prop := gamesSerialUptoRow.holds Try.pinned (OpenSpec.upto gamesSerialSpec)

end Rows
end Go.Proofs.Ytbidboagaoifaaa
