/-
  DERIVED. GIVEN WITH THE SEED: THE CARDS: each row of YtabhpbkkjijfjaaGreatDoorRows.lean that lists a variable, with what it lists TIED to the program's text (the seventh form; the later family's looks); each row that meets fmt, with fmt's text TOLD by the authors' own Lean function (tested against real Go, not proved from fmt's source: count such statements apart). THE CARD IS WHAT COUNTS. Prove the row's statement (the work); the ties are given (YtabhpbkkjijfjaaGreatDoorTie.lean); close each card by the builder's one call (the guide's Derived/Test/ToyasCard.lean, 'card_holds'). Laid BY PROGRAM, IN A SANDBOX (cutbox-door.mjs). By AI agents, Wed Nov 11 2026. No macro, syntax, notation, axiom, sorry.
-/
import Derived.Test.YtabhpbkkjijfjaaGreatDoorRows
import GoSem.ClaimSeven
namespace Go.Proofs.YtabhpbkkjijfjaaGreatDoor
namespace Rows

/-- THE TIED CARD OF 'lifelodgelaw.HouseLogs'. -/
def houseLogsCard : Claim7 := { stood := { row := houseLogsRow, standIns := [], harness := (true, "1c0f4af286202bbe3242d76463878062ba45fb059eefe659f844a3175fbb142c"), looks := true }, kinds := [], alts := [], laidByText := true, laidKinds := [.data, .data, .data, .data, .sentinel, .sentinel, .pinned], laidTests := true, laidLooks := .later }
def HouseLogsCardSaid : Prop := Claim7.holds Tryz.pinned (.plain (OpenSpec.ofChange houseLogsSpec)) houseLogsCard

/-- THE SECOND FORM's CARD OF 'lifelodgelaw.HouseLogs'. -/
def houseLogsUptoCard : Claim7 := { stood := { row := houseLogsUptoRow, standIns := [], harness := (true, "1c0f4af286202bbe3242d76463878062ba45fb059eefe659f844a3175fbb142c"), looks := true }, kinds := [], alts := [], laidByText := true, laidKinds := [.data, .data, .data, .data, .sentinel, .sentinel, .pinned], laidTests := true, laidLooks := .later }
def HouseLogsUptoCardSaid : Prop := Claim7.holds Tryz.pinned (.plain (OpenSpec.upto houseLogsSpec)) houseLogsUptoCard
end Rows
end Go.Proofs.YtabhpbkkjijfjaaGreatDoor
