/-
  DERIVED. GIVEN WITH THE SEED: THE CARDS: each row of YtjbkfkgdpbjliaaDoorRows.lean that lists a variable, with what it lists TIED to the program's text (the seventh form; the later family's looks); each row that meets fmt, with fmt's text TOLD by the authors' own Lean function (tested against real Go, not proved from fmt's source: count such statements apart). THE CARD IS WHAT COUNTS. Prove the row's statement (the work); the ties are given (YtjbkfkgdpbjliaaDoorTie.lean); close each card by the builder's one call (the guide's Derived/Test/ToyasCard.lean, 'card_holds'). Laid BY PROGRAM, IN A SANDBOX (cutbox-door.mjs). By AI agents, Wed Nov 11 2026. No macro, syntax, notation, axiom, sorry.
-/
import Derived.Test.YtjbkfkgdpbjliaaDoorRows
import GoSem.ClaimSeven
namespace Go.Proofs.YtjbkfkgdpbjliaaDoor
namespace Rows

/-- THE TIED CARD OF 'lifelodgelaw.KeysMint'. -/
def keysMintCard : Claim7 := { stood := { row := keysMintRow, standIns := [], harness := (true, "f3f4426b3c8fc9e7439209ed505c469bf511d867459eea0007fae80de41c990a"), looks := false }, kinds := [], alts := [], laidByText := true, laidKinds := [.data, .data, .data], laidTests := true, laidLooks := .later }
def KeysMintCardSaid : Prop := Claim7.holds Tryd.pinned (.plain (OpenSpec.ofChange keysMintSpec)) keysMintCard

/-- THE SECOND FORM's CARD OF 'lifelodgelaw.KeysMint'. -/
def keysMintUptoCard : Claim7 := { stood := { row := keysMintUptoRow, standIns := [], harness := (true, "f3f4426b3c8fc9e7439209ed505c469bf511d867459eea0007fae80de41c990a"), looks := false }, kinds := [], alts := [], laidByText := true, laidKinds := [.data, .data, .data], laidTests := true, laidLooks := .later }
def KeysMintUptoCardSaid : Prop := Claim7.holds Tryd.pinned (.plain (OpenSpec.upto keysMintSpec)) keysMintUptoCard
end Rows
end Go.Proofs.YtjbkfkgdpbjliaaDoor
