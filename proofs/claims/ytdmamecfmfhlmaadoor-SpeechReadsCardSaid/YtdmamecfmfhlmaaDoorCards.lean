/-
  DERIVED. GIVEN WITH THE SEED: THE CARDS: each row of YtdmamecfmfhlmaaDoorRows.lean that lists a variable, with what it lists TIED to the program's text (the seventh form; the later family's looks); each row that meets fmt, with fmt's text TOLD by the authors' own Lean function (tested against real Go, not proved from fmt's source: count such statements apart). THE CARD IS WHAT COUNTS. Prove the row's statement (the work); the ties are given (YtdmamecfmfhlmaaDoorTie.lean); close each card by the builder's one call (the guide's Derived/Test/ToyasCard.lean, 'card_holds'). Laid BY PROGRAM, IN A SANDBOX (cutbox-door.mjs). By AI agents, Wed Nov 11 2026. No macro, syntax, notation, axiom, sorry.
-/
import Derived.Test.YtdmamecfmfhlmaaDoorRows
import GoSem.ClaimSeven
namespace Go.Proofs.YtdmamecfmfhlmaaDoor
namespace Rows

/-- THE TIED CARD OF 'lifelodgelaw.KeysMint'. -/
def keysMintCard : Claim7 := { stood := { row := keysMintRow, standIns := [], harness := (true, "0190eda7a6ec6f133dfb408c2de8a948bd828ae5d6f5456c4d9fbe43ba665a3b"), looks := true }, kinds := [], alts := [], laidByText := true, laidKinds := [.data, .data, .data], laidTests := true, laidLooks := .later }
def KeysMintCardSaid : Prop := Claim7.holds Tryd.pinned (.plain (OpenSpec.ofChange keysMintSpec)) keysMintCard

/-- THE TIED CARD OF 'lifelodgelaw.RleWrites'. -/
def rleWritesCard : Claim7 := { stood := { row := rleWritesRow, standIns := [], harness := (true, "0190eda7a6ec6f133dfb408c2de8a948bd828ae5d6f5456c4d9fbe43ba665a3b"), looks := true }, kinds := [], alts := [], laidByText := true, laidKinds := [.data, .data, .data], laidTests := true, laidLooks := .later }
def RleWritesCardSaid : Prop := Claim7.holds Tryd.pinned (.plain (OpenSpec.ofChange rleWritesSpec)) rleWritesCard

/-- THE TIED CARD OF 'lifelodgelaw.SpeechTells'. -/
def speechTellsCard : Claim7 := { stood := { row := speechTellsRow, standIns := [], harness := (true, "0190eda7a6ec6f133dfb408c2de8a948bd828ae5d6f5456c4d9fbe43ba665a3b"), looks := true }, kinds := [], alts := [], laidByText := true, laidKinds := [.data, .data, .data], laidTests := true, laidLooks := .later }
def SpeechTellsCardSaid : Prop := Claim7.holds Tryd.pinned (.plain (OpenSpec.ofChange speechTellsSpec)) speechTellsCard

/-- THE TIED CARD OF 'lifelodgelaw.SpeechReads'. -/
def speechReadsCard : Claim7 := { stood := { row := speechReadsRow, standIns := [], harness := (true, "0190eda7a6ec6f133dfb408c2de8a948bd828ae5d6f5456c4d9fbe43ba665a3b"), looks := true }, kinds := [], alts := [], laidByText := true, laidKinds := [.data, .data, .data, .data, .data, .data, .sentinel, .sentinel, .pinned], laidTests := true, laidLooks := .later }
def SpeechReadsCardSaid : Prop := Claim7.holds Tryd.pinned (.plain (OpenSpec.ofChange speechReadsSpec)) speechReadsCard

/-- THE SECOND FORM's CARD OF 'lifelodgelaw.KeysMint'. -/
def keysMintUptoCard : Claim7 := { stood := { row := keysMintUptoRow, standIns := [], harness := (true, "0190eda7a6ec6f133dfb408c2de8a948bd828ae5d6f5456c4d9fbe43ba665a3b"), looks := true }, kinds := [], alts := [], laidByText := true, laidKinds := [.data, .data, .data], laidTests := true, laidLooks := .later }
def KeysMintUptoCardSaid : Prop := Claim7.holds Tryd.pinned (.plain (OpenSpec.upto keysMintSpec)) keysMintUptoCard

/-- THE SECOND FORM's CARD OF 'lifelodgelaw.RleWrites'. -/
def rleWritesUptoCard : Claim7 := { stood := { row := rleWritesUptoRow, standIns := [], harness := (true, "0190eda7a6ec6f133dfb408c2de8a948bd828ae5d6f5456c4d9fbe43ba665a3b"), looks := true }, kinds := [], alts := [], laidByText := true, laidKinds := [.data, .data, .data], laidTests := true, laidLooks := .later }
def RleWritesUptoCardSaid : Prop := Claim7.holds Tryd.pinned (.plain (OpenSpec.upto rleWritesSpec)) rleWritesUptoCard

/-- THE SECOND FORM's CARD OF 'lifelodgelaw.SpeechTells'. -/
def speechTellsUptoCard : Claim7 := { stood := { row := speechTellsUptoRow, standIns := [], harness := (true, "0190eda7a6ec6f133dfb408c2de8a948bd828ae5d6f5456c4d9fbe43ba665a3b"), looks := true }, kinds := [], alts := [], laidByText := true, laidKinds := [.data, .data, .data], laidTests := true, laidLooks := .later }
def SpeechTellsUptoCardSaid : Prop := Claim7.holds Tryd.pinned (.plain (OpenSpec.upto speechTellsSpec)) speechTellsUptoCard

/-- THE SECOND FORM's CARD OF 'lifelodgelaw.SpeechReads'. -/
def speechReadsUptoCard : Claim7 := { stood := { row := speechReadsUptoRow, standIns := [], harness := (true, "0190eda7a6ec6f133dfb408c2de8a948bd828ae5d6f5456c4d9fbe43ba665a3b"), looks := true }, kinds := [], alts := [], laidByText := true, laidKinds := [.data, .data, .data, .data, .data, .data, .sentinel, .sentinel, .pinned], laidTests := true, laidLooks := .later }
def SpeechReadsUptoCardSaid : Prop := Claim7.holds Tryd.pinned (.plain (OpenSpec.upto speechReadsSpec)) speechReadsUptoCard
end Rows
end Go.Proofs.YtdmamecfmfhlmaaDoor
