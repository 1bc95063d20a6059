/-
  DERIVED. GIVEN WITH THE SEED: THE CARDS: each row of YtlfocffihiephaaGreatDoorRows.lean that lists a variable, with what it lists TIED to the program's text (the seventh form; the later family's looks); each row that meets fmt, with fmt's text TOLD by the authors' own Lean function (tested against real Go, not proved from fmt's source: count such statements apart). THE CARD IS WHAT COUNTS. Prove the row's statement (the work); the ties are given (YtlfocffihiephaaGreatDoorTie.lean); close each card by the builder's one call (the guide's Derived/Test/ToyasCard.lean, 'card_holds'). Laid BY PROGRAM, IN A SANDBOX (cutbox-door.mjs). By AI agents, Wed Nov 11 2026. No macro, syntax, notation, axiom, sorry.
-/
import Derived.Test.YtlfocffihiephaaGreatDoorRows
import GoSem.ClaimSeven
namespace Go.Proofs.YtlfocffihiephaaGreatDoor
namespace Rows

/-- THE TIED CARD OF 'synchronylaw39.TransNil'. -/
def transNilCard : Claim7 := { stood := { row := transNilRow, standIns := [], harness := (true, "5536c2a650a34053d7e8ca45b8aaff57aabf112113abc813f78f2f5d75160547"), looks := true }, kinds := [], alts := [], laidByText := true, laidKinds := [.data, .data, .data], laidTests := true, laidLooks := .later }
def TransNilCardSaid : Prop := Claim7.holds Tryz.pinned (.plain (OpenSpec.ofChange transNilSpec)) transNilCard

/-- THE SECOND FORM's CARD OF 'synchronylaw39.TransNil'. -/
def transNilUptoCard : Claim7 := { stood := { row := transNilUptoRow, standIns := [], harness := (true, "5536c2a650a34053d7e8ca45b8aaff57aabf112113abc813f78f2f5d75160547"), looks := true }, kinds := [], alts := [], laidByText := true, laidKinds := [.data, .data, .data], laidTests := true, laidLooks := .later }
def TransNilUptoCardSaid : Prop := Claim7.holds Tryz.pinned (.plain (OpenSpec.upto transNilSpec)) transNilUptoCard
end Rows
end Go.Proofs.YtlfocffihiephaaGreatDoor
