/-
  DERIVED. GIVEN WITH THE SEED: THE CARDS: each row of YtifmekijdepokaaDoorRows.lean that lists a variable, with what it lists TIED to the program's text (the seventh form; the later family's looks); each row that meets fmt, with fmt's text TOLD by the authors' own Lean function (tested against real Go, not proved from fmt's source: count such statements apart). THE CARD IS WHAT COUNTS. Prove the row's statement (the work); the ties are given (YtifmekijdepokaaDoorTie.lean); close each card by the builder's one call (the guide's Derived/Test/ToyasCard.lean, 'card_holds'). Laid BY PROGRAM, IN A SANDBOX (cutbox-door.mjs). By AI agents, Wed Nov 11 2026. No macro, syntax, notation, axiom, sorry.
-/
import Derived.Test.YtifmekijdepokaaDoorRows
import GoSem.ClaimSeven
namespace Go.Proofs.YtifmekijdepokaaDoor
namespace Rows

/-- THE TIED CARD OF 'corrodytop.TopRoad'. -/
def topRoadCard : Claim7 := { stood := { row := topRoadRow, standIns := [], harness := (true, "5b8cc682df03f279b851b15a8868e06cfb19c50076d9deae93c0748af5d197b6"), looks := false }, kinds := [], alts := [], laidByText := true, laidKinds := [.data, .data], laidTests := true, laidLooks := .later }
def TopRoadCardSaid : Prop := Claim7.holds Tryd.pinned (.plain (OpenSpec.ofChange topRoadSpec)) topRoadCard

/-- THE TIED CARD OF 'corrodytop.TopBird'. -/
def topBirdCard : Claim7 := { stood := { row := topBirdRow, standIns := [], harness := (true, "5b8cc682df03f279b851b15a8868e06cfb19c50076d9deae93c0748af5d197b6"), looks := false }, kinds := [], alts := [], laidByText := true, laidKinds := [.data, .data], laidTests := true, laidLooks := .later }
def TopBirdCardSaid : Prop := Claim7.holds Tryd.pinned (.plain (OpenSpec.ofChange topBirdSpec)) topBirdCard

/-- THE SECOND FORM's CARD OF 'corrodytop.TopRoad'. -/
def topRoadUptoCard : Claim7 := { stood := { row := topRoadUptoRow, standIns := [], harness := (true, "5b8cc682df03f279b851b15a8868e06cfb19c50076d9deae93c0748af5d197b6"), looks := false }, kinds := [], alts := [], laidByText := true, laidKinds := [.data, .data], laidTests := true, laidLooks := .later }
def TopRoadUptoCardSaid : Prop := Claim7.holds Tryd.pinned (.plain (OpenSpec.upto topRoadSpec)) topRoadUptoCard

/-- THE SECOND FORM's CARD OF 'corrodytop.TopBird'. -/
def topBirdUptoCard : Claim7 := { stood := { row := topBirdUptoRow, standIns := [], harness := (true, "5b8cc682df03f279b851b15a8868e06cfb19c50076d9deae93c0748af5d197b6"), looks := false }, kinds := [], alts := [], laidByText := true, laidKinds := [.data, .data], laidTests := true, laidLooks := .later }
def TopBirdUptoCardSaid : Prop := Claim7.holds Tryd.pinned (.plain (OpenSpec.upto topBirdSpec)) topBirdUptoCard
end Rows
end Go.Proofs.YtifmekijdepokaaDoor
