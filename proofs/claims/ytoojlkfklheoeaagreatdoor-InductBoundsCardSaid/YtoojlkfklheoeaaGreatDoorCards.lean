/-
  DERIVED. GIVEN WITH THE SEED: THE CARDS: each row of YtoojlkfklheoeaaGreatDoorRows.lean that lists a variable, with what it lists TIED to the program's text (the seventh form; the later family's looks); each row that meets fmt, with fmt's text TOLD by the authors' own Lean function (tested against real Go, not proved from fmt's source: count such statements apart). THE CARD IS WHAT COUNTS. Prove the row's statement (the work); the ties are given (YtoojlkfklheoeaaGreatDoorTie.lean); close each card by the builder's one call (the guide's Derived/Test/ToyasCard.lean, 'card_holds'). Laid BY PROGRAM, IN A SANDBOX (cutbox-door.mjs). By AI agents, Wed Nov 11 2026. No macro, syntax, notation, axiom, sorry.
-/
import Derived.Test.YtoojlkfklheoeaaGreatDoorRows
import GoSem.ClaimSeven
namespace Go.Proofs.YtoojlkfklheoeaaGreatDoor
namespace Rows

/-- THE TIED CARD OF 'synchronylaw42.InductBounds'. -/
def inductBoundsCard : Claim7 := { stood := { row := inductBoundsRow, standIns := [], harness := (true, "96c0ae6ca1aace6e6f3e87817e503e36ae4a5221c85c455c44bd5e35d76677d7"), looks := true }, kinds := [], alts := [], laidByText := true, laidKinds := [.data, .data, .data], laidTests := true, laidLooks := .later }
def InductBoundsCardSaid : Prop := Claim7.holds Tryz.pinned (.plain (OpenSpec.ofChange inductBoundsSpec)) inductBoundsCard

/-- THE SECOND FORM's CARD OF 'synchronylaw42.InductBounds'. -/
def inductBoundsUptoCard : Claim7 := { stood := { row := inductBoundsUptoRow, standIns := [], harness := (true, "96c0ae6ca1aace6e6f3e87817e503e36ae4a5221c85c455c44bd5e35d76677d7"), looks := true }, kinds := [], alts := [], laidByText := true, laidKinds := [.data, .data, .data], laidTests := true, laidLooks := .later }
def InductBoundsUptoCardSaid : Prop := Claim7.holds Tryz.pinned (.plain (OpenSpec.upto inductBoundsSpec)) inductBoundsUptoCard
end Rows
end Go.Proofs.YtoojlkfklheoeaaGreatDoor
