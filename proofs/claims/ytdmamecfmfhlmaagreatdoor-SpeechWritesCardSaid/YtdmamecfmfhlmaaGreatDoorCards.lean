/-
  DERIVED. GIVEN WITH THE SEED: THE CARDS: each row of YtdmamecfmfhlmaaGreatDoorRows.lean that lists a variable, with what it lists TIED to the program's text (the seventh form; the later family's looks); each row that meets fmt, with fmt's text TOLD by the authors' own Lean function (tested against real Go, not proved from fmt's source: count such statements apart). THE CARD IS WHAT COUNTS. Prove the row's statement (the work); the ties are given (YtdmamecfmfhlmaaGreatDoorTie.lean); close each card by the builder's one call (the guide's Derived/Test/ToyasCard.lean, 'card_holds'). Laid BY PROGRAM, IN A SANDBOX (cutbox-door.mjs). By AI agents, Wed Nov 11 2026. No macro, syntax, notation, axiom, sorry.
-/
import Derived.Test.YtdmamecfmfhlmaaGreatDoorRows
import GoSem.ClaimSeven
namespace Go.Proofs.YtdmamecfmfhlmaaGreatDoor
namespace Rows

/-- THE TIED CARD OF 'lifelodgelaw.SpeechWrites'. -/
def speechWritesCard : Claim7 := { stood := { row := speechWritesRow, standIns := [], harness := (true, "8c43158f97c5fea2c1be87ce2b497df08210c471d8d30ffeb7ea6888f6cf7c89"), looks := true }, kinds := [], alts := [], laidByText := true, laidKinds := [.data, .data, .data, .data, .data, .data, .sentinel, .sentinel, .data, .pinned], laidTests := true, laidLooks := .later }
def SpeechWritesCardSaid : Prop := Claim7.holds Tryz.pinned (.plain (OpenSpec.ofChange speechWritesSpec)) speechWritesCard

/-- THE SECOND FORM's CARD OF 'lifelodgelaw.SpeechWrites'. -/
def speechWritesUptoCard : Claim7 := { stood := { row := speechWritesUptoRow, standIns := [], harness := (true, "8c43158f97c5fea2c1be87ce2b497df08210c471d8d30ffeb7ea6888f6cf7c89"), looks := true }, kinds := [], alts := [], laidByText := true, laidKinds := [.data, .data, .data, .data, .data, .data, .sentinel, .sentinel, .data, .pinned], laidTests := true, laidLooks := .later }
def SpeechWritesUptoCardSaid : Prop := Claim7.holds Tryz.pinned (.plain (OpenSpec.upto speechWritesSpec)) speechWritesUptoCard
end Rows
end Go.Proofs.YtdmamecfmfhlmaaGreatDoor
