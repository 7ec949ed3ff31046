/-
  DERIVED. GIVEN WITH THE SEED: THE CARDS: each row of YtfnephepcinigaaGreatDoorRows.lean that lists a variable, with what it lists TIED to the program's text (the seventh form; the later family's looks); each row that meets fmt, with fmt's text TOLD by the authors' own Lean function (tested against real Go, not proved from fmt's source: count such statements apart). THE CARD IS WHAT COUNTS. Prove the row's statement (the work); the ties are given (YtfnephepcinigaaGreatDoorTie.lean); close each card by the builder's one call (the guide's Derived/Test/ToyasCard.lean, 'card_holds'). Laid BY PROGRAM, IN A SANDBOX (cutbox-door.mjs). By AI agents, Wed Nov 11 2026. No macro, syntax, notation, axiom, sorry.
-/
import Derived.Test.YtfnephepcinigaaGreatDoorRows
import GoSem.ClaimSeven
namespace Go.Proofs.YtfnephepcinigaaGreatDoor
namespace Rows

/-- THE TIED CARD OF 'lifelodgelaw.HouseNil'. -/
def houseNilCard : Claim7 := { stood := { row := houseNilRow, standIns := [], harness := (true, "7d3ef5a75bb52abcd105b68e77164bd9a529e2a47d19187262e9a40861b18966"), looks := true }, kinds := [], alts := [], laidByText := true, laidKinds := [.data, .data, .data, .data, .sentinel, .sentinel, .pinned], laidTests := true, laidLooks := .later }
def HouseNilCardSaid : Prop := Claim7.holds Tryz.pinned (.plain (OpenSpec.ofChange houseNilSpec)) houseNilCard

/-- THE TIED CARD OF 'lifelodgelaw.HallNew'. -/
def hallNewCard : Claim7 := { stood := { row := hallNewRow, standIns := [], harness := (true, "7d3ef5a75bb52abcd105b68e77164bd9a529e2a47d19187262e9a40861b18966"), looks := true }, kinds := [], alts := [], laidByText := true, laidKinds := [.data, .data, .data], laidTests := true, laidLooks := .later }
def HallNewCardSaid : Prop := Claim7.holds Tryz.pinned (.plain (OpenSpec.ofChange hallNewSpec)) hallNewCard

/-- THE SECOND FORM's CARD OF 'lifelodgelaw.HouseNil'. -/
def houseNilUptoCard : Claim7 := { stood := { row := houseNilUptoRow, standIns := [], harness := (true, "7d3ef5a75bb52abcd105b68e77164bd9a529e2a47d19187262e9a40861b18966"), looks := true }, kinds := [], alts := [], laidByText := true, laidKinds := [.data, .data, .data, .data, .sentinel, .sentinel, .pinned], laidTests := true, laidLooks := .later }
def HouseNilUptoCardSaid : Prop := Claim7.holds Tryz.pinned (.plain (OpenSpec.upto houseNilSpec)) houseNilUptoCard

/-- THE SECOND FORM's CARD OF 'lifelodgelaw.HallNew'. -/
def hallNewUptoCard : Claim7 := { stood := { row := hallNewUptoRow, standIns := [], harness := (true, "7d3ef5a75bb52abcd105b68e77164bd9a529e2a47d19187262e9a40861b18966"), looks := true }, kinds := [], alts := [], laidByText := true, laidKinds := [.data, .data, .data], laidTests := true, laidLooks := .later }
def HallNewUptoCardSaid : Prop := Claim7.holds Tryz.pinned (.plain (OpenSpec.upto hallNewSpec)) hallNewUptoCard
end Rows
end Go.Proofs.YtfnephepcinigaaGreatDoor
