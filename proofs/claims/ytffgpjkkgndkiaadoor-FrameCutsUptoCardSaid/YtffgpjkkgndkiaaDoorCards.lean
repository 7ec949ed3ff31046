/-
  DERIVED. GIVEN WITH THE SEED: THE CARDS: each row of YtffgpjkkgndkiaaDoorRows.lean that lists a variable, with what it lists TIED to the program's text (the seventh form; the later family's looks); each row that meets fmt, with fmt's text TOLD by the authors' own Lean function (tested against real Go, not proved from fmt's source: count such statements apart). THE CARD IS WHAT COUNTS. Prove the row's statement (the work); the ties are given (YtffgpjkkgndkiaaDoorTie.lean); close each card by the builder's one call (the guide's Derived/Test/ToyasCard.lean, 'card_holds'). Laid BY PROGRAM, IN A SANDBOX (cutbox-door.mjs). By AI agents, Wed Nov 11 2026. No macro, syntax, notation, axiom, sorry.
-/
import Derived.Test.YtffgpjkkgndkiaaDoorRows
import GoSem.ClaimSeven
namespace Go.Proofs.YtffgpjkkgndkiaaDoor
namespace Rows

/-- THE TIED CARD OF 'lifelodgelaw.KeysMint'. -/
def keysMintCard : Claim7 := { stood := { row := keysMintRow, standIns := [], harness := (true, "7454f2e5455046e77f0cf402d316ff2c9f40e1e34bf66a9d46470b51fbb4f222"), looks := false }, kinds := [], alts := [], laidByText := true, laidKinds := [.data, .data, .data], laidTests := true, laidLooks := .later }
def KeysMintCardSaid : Prop := Claim7.holds Tryd.pinned (.plain (OpenSpec.ofChange keysMintSpec)) keysMintCard

/-- THE TIED CARD OF 'lifelodgelaw.FrameCuts'. -/
def frameCutsCard : Claim7 := { stood := { row := frameCutsRow, standIns := [], harness := (true, "7454f2e5455046e77f0cf402d316ff2c9f40e1e34bf66a9d46470b51fbb4f222"), looks := false }, kinds := [], alts := [], laidByText := true, laidKinds := [.data, .pinned], laidTests := true, laidLooks := .later }
def FrameCutsCardSaid : Prop := Claim7.holds Tryd.pinned (.plain (OpenSpec.ofChange frameCutsSpec)) frameCutsCard

/-- THE TIED CARD OF 'lifelodgelaw.FrameUnwraps'. -/
def frameUnwrapsCard : Claim7 := { stood := { row := frameUnwrapsRow, standIns := [], harness := (true, "7454f2e5455046e77f0cf402d316ff2c9f40e1e34bf66a9d46470b51fbb4f222"), looks := false }, kinds := [], alts := [], laidByText := true, laidKinds := [.data, .pinned], laidTests := true, laidLooks := .later }
def FrameUnwrapsCardSaid : Prop := Claim7.holds Tryd.pinned (.plain (OpenSpec.ofChange frameUnwrapsSpec)) frameUnwrapsCard

/-- THE TIED CARD OF 'lifelodgelaw.RleWrites'. -/
def rleWritesCard : Claim7 := { stood := { row := rleWritesRow, standIns := [], harness := (true, "7454f2e5455046e77f0cf402d316ff2c9f40e1e34bf66a9d46470b51fbb4f222"), looks := false }, kinds := [], alts := [], laidByText := true, laidKinds := [.data, .data, .data], laidTests := true, laidLooks := .later }
def RleWritesCardSaid : Prop := Claim7.holds Tryd.pinned (.plain (OpenSpec.ofChange rleWritesSpec)) rleWritesCard

/-- THE SECOND FORM's CARD OF 'lifelodgelaw.KeysMint'. -/
def keysMintUptoCard : Claim7 := { stood := { row := keysMintUptoRow, standIns := [], harness := (true, "7454f2e5455046e77f0cf402d316ff2c9f40e1e34bf66a9d46470b51fbb4f222"), looks := false }, kinds := [], alts := [], laidByText := true, laidKinds := [.data, .data, .data], laidTests := true, laidLooks := .later }
def KeysMintUptoCardSaid : Prop := Claim7.holds Tryd.pinned (.plain (OpenSpec.upto keysMintSpec)) keysMintUptoCard

/-- THE SECOND FORM's CARD OF 'lifelodgelaw.FrameCuts'. -/
def frameCutsUptoCard : Claim7 := { stood := { row := frameCutsUptoRow, standIns := [], harness := (true, "7454f2e5455046e77f0cf402d316ff2c9f40e1e34bf66a9d46470b51fbb4f222"), looks := false }, kinds := [], alts := [], laidByText := true, laidKinds := [.data, .pinned], laidTests := true, laidLooks := .later }
def FrameCutsUptoCardSaid : Prop := Claim7.holds Tryd.pinned (.plain (OpenSpec.upto frameCutsSpec)) frameCutsUptoCard

/-- THE SECOND FORM's CARD OF 'lifelodgelaw.FrameUnwraps'. -/
def frameUnwrapsUptoCard : Claim7 := { stood := { row := frameUnwrapsUptoRow, standIns := [], harness := (true, "7454f2e5455046e77f0cf402d316ff2c9f40e1e34bf66a9d46470b51fbb4f222"), looks := false }, kinds := [], alts := [], laidByText := true, laidKinds := [.data, .pinned], laidTests := true, laidLooks := .later }
def FrameUnwrapsUptoCardSaid : Prop := Claim7.holds Tryd.pinned (.plain (OpenSpec.upto frameUnwrapsSpec)) frameUnwrapsUptoCard

/-- THE SECOND FORM's CARD OF 'lifelodgelaw.RleWrites'. -/
def rleWritesUptoCard : Claim7 := { stood := { row := rleWritesUptoRow, standIns := [], harness := (true, "7454f2e5455046e77f0cf402d316ff2c9f40e1e34bf66a9d46470b51fbb4f222"), looks := false }, kinds := [], alts := [], laidByText := true, laidKinds := [.data, .data, .data], laidTests := true, laidLooks := .later }
def RleWritesUptoCardSaid : Prop := Claim7.holds Tryd.pinned (.plain (OpenSpec.upto rleWritesSpec)) rleWritesUptoCard
end Rows
end Go.Proofs.YtffgpjkkgndkiaaDoor
