/-
  No cell of these rows narrows 'for every input' (looked for: loops, veiled, ifaces, maps, wideKeys, modest, calm, conditions, laid).
  DERIVED. THE GIVEN ROWS OF THIS SEAT. 12 by the template 'for every input the law returns true; each argument reads behind the call as it read before'; 0 by the template 'total and deterministic' (their statements: YtghginiipknoeaaTotals.lean).
  GIVEN WITH THE SEED: the statements are not yours to turn. If you find one false, say at which input.
  Laid BY PROGRAM, IN A SANDBOX (cutbox-rows.mjs): the forced cells as the released guide's own fill.sh prints them over the translation a75fde71489f079c… (all of the seat's roots in one cut). By AI agents, Wed Nov 11 2026. No macro, syntax, notation, axiom, sorry.
-/
import Derived.Test.YtghginiipknoeaaChecked
import GoSem.Claim
import GoSem.ClaimJoined
import GoSem.ClaimMapViews
import Derived.JoinedTies
import Derived.KernelRfl
namespace Go.Proofs.Ytghginiipknoeaa
/- THE CELL 'sum', in the pinned program and in every row, IS THE sha256 OF THE DUMP (.gsa) THAT YtghginiipknoeaaProg.lean LOADS. Nothing in Lean hashes anything: it is a label: what it is worth is what the hold of that sum in a sandbox is worth. -/
noncomputable def Try.pinned : Pinned := { name := "ytghginiipknoeaa", sum := "a75fde71489f079cdf1df6dc8bddfe6d236816159f39ac72d5144e6d8db09162", checked := Try.checked }
namespace Rows
def none {H : Type} : Left H := { results := [], args := [] }

/-- 'lifelodgelaw.Names': WHATEVER THE INPUT: true; the input reads as it did. -/
def namesSpec : ChangeSpec := { name := "names", fn := fun _ => fun
  | [] => { results := [.lit (.bool true)], args := [] }
  | _ => none }
def namesRow : OpenClaim := { program := "ytghginiipknoeaa", sum := "a75fde71489f079cdf1df6dc8bddfe6d236816159f39ac72d5144e6d8db09162", func := "lifelodge/lifelodgelaw.Names", spec := "names", apart := false }
def NamesSaid : Prop := namesRow.holds Try.pinned (OpenSpec.ofChange namesSpec)

/-- ITS FALSE NEIGHBOUR: 'it returns false'. Refute it at one input. -/
def namesWrong : ChangeSpec := { name := "names", fn := fun _ => fun
  | [] => { results := [.lit (.bool false)], args := [] }
  | _ => none }
def NamesWrongFalsely : Prop := namesRow.holds Try.pinned (OpenSpec.ofChange namesWrong)

/-- 'lifelodgelaw.RuleLives': WHATEVER THE INPUT: true; the input reads as it did. -/
def ruleLivesSpec : ChangeSpec := { name := "ruleLives", fn := fun _ => fun
  | [d1, d2, d3] => { results := [.lit (.bool true)], args := [d1, d2, d3] }
  | _ => none }
def ruleLivesRow : OpenClaim := { program := "ytghginiipknoeaa", sum := "a75fde71489f079cdf1df6dc8bddfe6d236816159f39ac72d5144e6d8db09162", func := "lifelodge/lifelodgelaw.RuleLives", spec := "ruleLives", apart := false }
def RuleLivesSaid : Prop := ruleLivesRow.holds Try.pinned (OpenSpec.ofChange ruleLivesSpec)

/-- ITS FALSE NEIGHBOUR: 'it returns false'. Refute it at one input. -/
def ruleLivesWrong : ChangeSpec := { name := "ruleLives", fn := fun _ => fun
  | [d1, d2, d3] => { results := [.lit (.bool false)], args := [d1, d2, d3] }
  | _ => none }
def RuleLivesWrongFalsely : Prop := ruleLivesRow.holds Try.pinned (OpenSpec.ofChange ruleLivesWrong)

/-- 'lifelodgelaw.KeysRevoke': WHATEVER THE INPUT: true; the input reads as it did. -/
def keysRevokeSpec : ChangeSpec := { name := "keysRevoke", fn := fun _ => fun
  | [d1, d2] => { results := [.lit (.bool true)], args := [d1, d2] }
  | _ => none }
def keysRevokeRow : OpenClaim := { program := "ytghginiipknoeaa", sum := "a75fde71489f079cdf1df6dc8bddfe6d236816159f39ac72d5144e6d8db09162", func := "lifelodge/lifelodgelaw.KeysRevoke", spec := "keysRevoke", apart := false }
def KeysRevokeSaid : Prop := keysRevokeRow.holds Try.pinned (OpenSpec.ofChange keysRevokeSpec)

/-- ITS FALSE NEIGHBOUR: 'it returns false'. Refute it at one input. -/
def keysRevokeWrong : ChangeSpec := { name := "keysRevoke", fn := fun _ => fun
  | [d1, d2] => { results := [.lit (.bool false)], args := [d1, d2] }
  | _ => none }
def KeysRevokeWrongFalsely : Prop := keysRevokeRow.holds Try.pinned (OpenSpec.ofChange keysRevokeWrong)

/-- 'lifelodgelaw.PlaneBoxes': WHATEVER THE INPUT: true; the input reads as it did. -/
def planeBoxesSpec : ChangeSpec := { name := "planeBoxes", fn := fun _ => fun
  | [d] => { results := [.lit (.bool true)], args := [d] }
  | _ => none }
def planeBoxesRow : OpenClaim := { program := "ytghginiipknoeaa", sum := "a75fde71489f079cdf1df6dc8bddfe6d236816159f39ac72d5144e6d8db09162", func := "lifelodge/lifelodgelaw.PlaneBoxes", spec := "planeBoxes", apart := false }
def PlaneBoxesSaid : Prop := planeBoxesRow.holds Try.pinned (OpenSpec.ofChange planeBoxesSpec)

/-- ITS FALSE NEIGHBOUR: 'it returns false'. Refute it at one input. -/
def planeBoxesWrong : ChangeSpec := { name := "planeBoxes", fn := fun _ => fun
  | [d] => { results := [.lit (.bool false)], args := [d] }
  | _ => none }
def PlaneBoxesWrongFalsely : Prop := planeBoxesRow.holds Try.pinned (OpenSpec.ofChange planeBoxesWrong)

/-- 'lifelodgelaw.HouseChecks': WHATEVER THE INPUT: true; the input reads as it did. -/
def houseChecksSpec : ChangeSpec := { name := "houseChecks", fn := fun _ => fun
  | [d] => { results := [.lit (.bool true)], args := [d] }
  | _ => none }
def houseChecksRow : OpenClaim := { program := "ytghginiipknoeaa", sum := "a75fde71489f079cdf1df6dc8bddfe6d236816159f39ac72d5144e6d8db09162", func := "lifelodge/lifelodgelaw.HouseChecks", spec := "houseChecks", apart := false }
def HouseChecksSaid : Prop := houseChecksRow.holds Try.pinned (OpenSpec.ofChange houseChecksSpec)

/-- ITS FALSE NEIGHBOUR: 'it returns false'. Refute it at one input. -/
def houseChecksWrong : ChangeSpec := { name := "houseChecks", fn := fun _ => fun
  | [d] => { results := [.lit (.bool false)], args := [d] }
  | _ => none }
def HouseChecksWrongFalsely : Prop := houseChecksRow.holds Try.pinned (OpenSpec.ofChange houseChecksWrong)

/-- 'lifelodgelaw.RuleTexts': WHATEVER THE INPUT: true; the input reads as it did. -/
def ruleTextsSpec : ChangeSpec := { name := "ruleTexts", fn := fun _ => fun
  | [d] => { results := [.lit (.bool true)], args := [d] }
  | _ => none }
def ruleTextsRow : OpenClaim := { program := "ytghginiipknoeaa", sum := "a75fde71489f079cdf1df6dc8bddfe6d236816159f39ac72d5144e6d8db09162", func := "lifelodge/lifelodgelaw.RuleTexts", spec := "ruleTexts", apart := false }
def RuleTextsSaid : Prop := ruleTextsRow.holds Try.pinned (OpenSpec.ofChange ruleTextsSpec)

/-- ITS FALSE NEIGHBOUR: 'it returns false'. Refute it at one input. -/
def ruleTextsWrong : ChangeSpec := { name := "ruleTexts", fn := fun _ => fun
  | [d] => { results := [.lit (.bool false)], args := [d] }
  | _ => none }
def RuleTextsWrongFalsely : Prop := ruleTextsRow.holds Try.pinned (OpenSpec.ofChange ruleTextsWrong)

/-- 'lifelodgelaw.KeysFind': WHATEVER THE INPUT: true; the input reads as it did. -/
def keysFindSpec : ChangeSpec := { name := "keysFind", fn := fun _ => fun
  | [d1, d2, d3] => { results := [.lit (.bool true)], args := [d1, d2, d3] }
  | _ => none }
def keysFindRow : OpenClaim := { program := "ytghginiipknoeaa", sum := "a75fde71489f079cdf1df6dc8bddfe6d236816159f39ac72d5144e6d8db09162", func := "lifelodge/lifelodgelaw.KeysFind", spec := "keysFind", unfollowed := true, recurses := true, apart := false }
def KeysFindSaid : Prop := keysFindRow.holds Try.pinned (OpenSpec.ofChange keysFindSpec)

/-- ITS FALSE NEIGHBOUR: 'it returns false'. Refute it at one input. -/
def keysFindWrong : ChangeSpec := { name := "keysFind", fn := fun _ => fun
  | [d1, d2, d3] => { results := [.lit (.bool false)], args := [d1, d2, d3] }
  | _ => none }
def KeysFindWrongFalsely : Prop := keysFindRow.holds Try.pinned (OpenSpec.ofChange keysFindWrong)

/-- 'lifelodgelaw.SpeechNames': WHATEVER THE INPUT: true; the input reads as it did. -/
def speechNamesSpec : ChangeSpec := { name := "speechNames", fn := fun _ => fun
  | [d] => { results := [.lit (.bool true)], args := [d] }
  | _ => none }
def speechNamesRow : OpenClaim := { program := "ytghginiipknoeaa", sum := "a75fde71489f079cdf1df6dc8bddfe6d236816159f39ac72d5144e6d8db09162", func := "lifelodge/lifelodgelaw.SpeechNames", spec := "speechNames", apart := false }
def SpeechNamesSaid : Prop := speechNamesRow.holds Try.pinned (OpenSpec.ofChange speechNamesSpec)

/-- ITS FALSE NEIGHBOUR: 'it returns false'. Refute it at one input. -/
def speechNamesWrong : ChangeSpec := { name := "speechNames", fn := fun _ => fun
  | [d] => { results := [.lit (.bool false)], args := [d] }
  | _ => none }
def SpeechNamesWrongFalsely : Prop := speechNamesRow.holds Try.pinned (OpenSpec.ofChange speechNamesWrong)

/-- 'lifelodgelaw.RuleReads': WHATEVER THE INPUT: true; the input reads as it did. -/
def ruleReadsSpec : ChangeSpec := { name := "ruleReads", fn := fun _ => fun
  | [d] => { results := [.lit (.bool true)], args := [d] }
  | _ => none }
def ruleReadsRow : OpenClaim := { program := "ytghginiipknoeaa", sum := "a75fde71489f079cdf1df6dc8bddfe6d236816159f39ac72d5144e6d8db09162", func := "lifelodge/lifelodgelaw.RuleReads", spec := "ruleReads", apart := false }
def RuleReadsSaid : Prop := ruleReadsRow.holds Try.pinned (OpenSpec.ofChange ruleReadsSpec)

/-- ITS FALSE NEIGHBOUR: 'it returns false'. Refute it at one input. -/
def ruleReadsWrong : ChangeSpec := { name := "ruleReads", fn := fun _ => fun
  | [d] => { results := [.lit (.bool false)], args := [d] }
  | _ => none }
def RuleReadsWrongFalsely : Prop := ruleReadsRow.holds Try.pinned (OpenSpec.ofChange ruleReadsWrong)

/-- 'lifelodgelaw.FrameWraps': WHATEVER THE INPUT: true; the input reads as it did. -/
def frameWrapsSpec : ChangeSpec := { name := "frameWraps", fn := fun _ => fun
  | [d] => { results := [.lit (.bool true)], args := [d] }
  | _ => none }
def frameWrapsRow : OpenClaim := { program := "ytghginiipknoeaa", sum := "a75fde71489f079cdf1df6dc8bddfe6d236816159f39ac72d5144e6d8db09162", func := "lifelodge/lifelodgelaw.FrameWraps", spec := "frameWraps", inPlace := ["internal/abi.NoEscape"], apart := false }
def FrameWrapsSaid : Prop := frameWrapsRow.holds Try.pinned (OpenSpec.ofChange frameWrapsSpec)

/-- ITS FALSE NEIGHBOUR: 'it returns false'. Refute it at one input. -/
def frameWrapsWrong : ChangeSpec := { name := "frameWraps", fn := fun _ => fun
  | [d] => { results := [.lit (.bool false)], args := [d] }
  | _ => none }
def FrameWrapsWrongFalsely : Prop := frameWrapsRow.holds Try.pinned (OpenSpec.ofChange frameWrapsWrong)

/-- 'lifelodgelaw.TurnsNil': WHATEVER THE INPUT: true; the input reads as it did. -/
def turnsNilSpec : ChangeSpec := { name := "turnsNil", fn := fun _ => fun
  | [d1, d2] => { results := [.lit (.bool true)], args := [d1, d2] }
  | _ => none }
def turnsNilRow : OpenClaim := { program := "ytghginiipknoeaa", sum := "a75fde71489f079cdf1df6dc8bddfe6d236816159f39ac72d5144e6d8db09162", func := "lifelodge/lifelodgelaw.TurnsNil", spec := "turnsNil", apart := false }
def TurnsNilSaid : Prop := turnsNilRow.holds Try.pinned (OpenSpec.ofChange turnsNilSpec)

/-- ITS FALSE NEIGHBOUR: 'it returns false'. Refute it at one input. -/
def turnsNilWrong : ChangeSpec := { name := "turnsNil", fn := fun _ => fun
  | [d1, d2] => { results := [.lit (.bool false)], args := [d1, d2] }
  | _ => none }
def TurnsNilWrongFalsely : Prop := turnsNilRow.holds Try.pinned (OpenSpec.ofChange turnsNilWrong)

/-- 'lifelodgelaw.TurnsPlay': WHATEVER THE INPUT: true; the input reads as it did. -/
def turnsPlaySpec : ChangeSpec := { name := "turnsPlay", fn := fun _ => fun
  | [d1, d2] => { results := [.lit (.bool true)], args := [d1, d2] }
  | _ => none }
def turnsPlayRow : OpenClaim := { program := "ytghginiipknoeaa", sum := "a75fde71489f079cdf1df6dc8bddfe6d236816159f39ac72d5144e6d8db09162", func := "lifelodge/lifelodgelaw.TurnsPlay", spec := "turnsPlay", apart := false }
def TurnsPlaySaid : Prop := turnsPlayRow.holds Try.pinned (OpenSpec.ofChange turnsPlaySpec)

/-- ITS FALSE NEIGHBOUR: 'it returns false'. Refute it at one input. -/
def turnsPlayWrong : ChangeSpec := { name := "turnsPlay", fn := fun _ => fun
  | [d1, d2] => { results := [.lit (.bool false)], args := [d1, d2] }
  | _ => none }
def TurnsPlayWrongFalsely : Prop := turnsPlayRow.holds Try.pinned (OpenSpec.ofChange turnsPlayWrong)

/- THE SECOND FORM. 'bulk': how many values and letters a reading holds, each counted each time it is reached (what is shared counts as often as it is met; a slice's spare places count too). A statement '..UptoSaid' is the law's where the arguments, and the package variables that the reading takes, are together of bulk at most 1048576: NARROWER than '..Said'. Prove '..Said' where nothing that the law and all that it calls make is longer than what came in: it says more and counts as full. Else prove '..UptoSaid'. A law counts once. -/
mutual
def uptoBulk {H : Type} : DataW H → Nat
  | .lit (.string bytes) => bytes.length + 1
  | .lit _ => 1
  | .nil => 1
  | .ptr d => uptoBulk d + 1
  | .slice elems spare => uptoBulkAll elems + uptoBulkAll spare + 1
  | .agg parts => uptoBulkAll parts + 1
  | .iface _ d => uptoBulk d + 1
  | .map entries => uptoBulkEntries entries + 1
  | .held _ => 1
def uptoBulkAll {H : Type} : List (DataW H) → Nat
  | [] => 0
  | d :: r => uptoBulk d + uptoBulkAll r
def uptoBulkEntries {H : Type} : List (Lit × DataW H) → Nat
  | [] => 0
  | x :: r => uptoBulkEntry x + uptoBulkEntries r
def uptoBulkEntry {H : Type} : Lit × DataW H → Nat
  | (.string bytes, d) => bytes.length + uptoBulk d + 1
  | (_, d) => uptoBulk d + 1
 end
def uptoSmall : (H : Type) → List (DataW H) → Bool := fun _ ds => decide (uptoBulkAll ds ≤ 1048576)
def OpenSpec.upto (s : _root_.Go.ChangeSpec) : _root_.Go.OpenSpec := { _root_.Go.OpenSpec.ofChange s with cond := some uptoSmall }

/-- 'lifelodgelaw.Names', WHERE WHAT IT READS IS OF BULK AT MOST 1048576: true; the input reads as it did. -/
def namesUptoRow : OpenClaim := { program := "ytghginiipknoeaa", sum := "a75fde71489f079cdf1df6dc8bddfe6d236816159f39ac72d5144e6d8db09162", func := "lifelodge/lifelodgelaw.Names", spec := "names", apart := false, narrowed := true }
def NamesUptoSaid : Prop := namesUptoRow.holds Try.pinned (OpenSpec.upto namesSpec)

/-- 'lifelodgelaw.RuleLives', WHERE WHAT IT READS IS OF BULK AT MOST 1048576: true; the input reads as it did. -/
def ruleLivesUptoRow : OpenClaim := { program := "ytghginiipknoeaa", sum := "a75fde71489f079cdf1df6dc8bddfe6d236816159f39ac72d5144e6d8db09162", func := "lifelodge/lifelodgelaw.RuleLives", spec := "ruleLives", apart := false, narrowed := true }
def RuleLivesUptoSaid : Prop := ruleLivesUptoRow.holds Try.pinned (OpenSpec.upto ruleLivesSpec)

/-- 'lifelodgelaw.KeysRevoke', WHERE WHAT IT READS IS OF BULK AT MOST 1048576: true; the input reads as it did. -/
def keysRevokeUptoRow : OpenClaim := { program := "ytghginiipknoeaa", sum := "a75fde71489f079cdf1df6dc8bddfe6d236816159f39ac72d5144e6d8db09162", func := "lifelodge/lifelodgelaw.KeysRevoke", spec := "keysRevoke", apart := false, narrowed := true }
def KeysRevokeUptoSaid : Prop := keysRevokeUptoRow.holds Try.pinned (OpenSpec.upto keysRevokeSpec)

/-- 'lifelodgelaw.PlaneBoxes', WHERE WHAT IT READS IS OF BULK AT MOST 1048576: true; the input reads as it did. -/
def planeBoxesUptoRow : OpenClaim := { program := "ytghginiipknoeaa", sum := "a75fde71489f079cdf1df6dc8bddfe6d236816159f39ac72d5144e6d8db09162", func := "lifelodge/lifelodgelaw.PlaneBoxes", spec := "planeBoxes", apart := false, narrowed := true }
def PlaneBoxesUptoSaid : Prop := planeBoxesUptoRow.holds Try.pinned (OpenSpec.upto planeBoxesSpec)

/-- 'lifelodgelaw.HouseChecks', WHERE WHAT IT READS IS OF BULK AT MOST 1048576: true; the input reads as it did. -/
def houseChecksUptoRow : OpenClaim := { program := "ytghginiipknoeaa", sum := "a75fde71489f079cdf1df6dc8bddfe6d236816159f39ac72d5144e6d8db09162", func := "lifelodge/lifelodgelaw.HouseChecks", spec := "houseChecks", apart := false, narrowed := true }
def HouseChecksUptoSaid : Prop := houseChecksUptoRow.holds Try.pinned (OpenSpec.upto houseChecksSpec)

/-- 'lifelodgelaw.RuleTexts', WHERE WHAT IT READS IS OF BULK AT MOST 1048576: true; the input reads as it did. -/
def ruleTextsUptoRow : OpenClaim := { program := "ytghginiipknoeaa", sum := "a75fde71489f079cdf1df6dc8bddfe6d236816159f39ac72d5144e6d8db09162", func := "lifelodge/lifelodgelaw.RuleTexts", spec := "ruleTexts", apart := false, narrowed := true }
def RuleTextsUptoSaid : Prop := ruleTextsUptoRow.holds Try.pinned (OpenSpec.upto ruleTextsSpec)

/-- 'lifelodgelaw.KeysFind', WHERE WHAT IT READS IS OF BULK AT MOST 1048576: true; the input reads as it did. -/
def keysFindUptoRow : OpenClaim := { program := "ytghginiipknoeaa", sum := "a75fde71489f079cdf1df6dc8bddfe6d236816159f39ac72d5144e6d8db09162", func := "lifelodge/lifelodgelaw.KeysFind", spec := "keysFind", unfollowed := true, recurses := true, apart := false, narrowed := true }
def KeysFindUptoSaid : Prop := keysFindUptoRow.holds Try.pinned (OpenSpec.upto keysFindSpec)

/-- 'lifelodgelaw.SpeechNames', WHERE WHAT IT READS IS OF BULK AT MOST 1048576: true; the input reads as it did. -/
def speechNamesUptoRow : OpenClaim := { program := "ytghginiipknoeaa", sum := "a75fde71489f079cdf1df6dc8bddfe6d236816159f39ac72d5144e6d8db09162", func := "lifelodge/lifelodgelaw.SpeechNames", spec := "speechNames", apart := false, narrowed := true }
def SpeechNamesUptoSaid : Prop := speechNamesUptoRow.holds Try.pinned (OpenSpec.upto speechNamesSpec)

/-- 'lifelodgelaw.RuleReads', WHERE WHAT IT READS IS OF BULK AT MOST 1048576: true; the input reads as it did. -/
def ruleReadsUptoRow : OpenClaim := { program := "ytghginiipknoeaa", sum := "a75fde71489f079cdf1df6dc8bddfe6d236816159f39ac72d5144e6d8db09162", func := "lifelodge/lifelodgelaw.RuleReads", spec := "ruleReads", apart := false, narrowed := true }
def RuleReadsUptoSaid : Prop := ruleReadsUptoRow.holds Try.pinned (OpenSpec.upto ruleReadsSpec)

/-- 'lifelodgelaw.FrameWraps', WHERE WHAT IT READS IS OF BULK AT MOST 1048576: true; the input reads as it did. -/
def frameWrapsUptoRow : OpenClaim := { program := "ytghginiipknoeaa", sum := "a75fde71489f079cdf1df6dc8bddfe6d236816159f39ac72d5144e6d8db09162", func := "lifelodge/lifelodgelaw.FrameWraps", spec := "frameWraps", inPlace := ["internal/abi.NoEscape"], apart := false, narrowed := true }
def FrameWrapsUptoSaid : Prop := frameWrapsUptoRow.holds Try.pinned (OpenSpec.upto frameWrapsSpec)

/-- 'lifelodgelaw.TurnsNil', WHERE WHAT IT READS IS OF BULK AT MOST 1048576: true; the input reads as it did. -/
def turnsNilUptoRow : OpenClaim := { program := "ytghginiipknoeaa", sum := "a75fde71489f079cdf1df6dc8bddfe6d236816159f39ac72d5144e6d8db09162", func := "lifelodge/lifelodgelaw.TurnsNil", spec := "turnsNil", apart := false, narrowed := true }
def TurnsNilUptoSaid : Prop := turnsNilUptoRow.holds Try.pinned (OpenSpec.upto turnsNilSpec)

/-- 'lifelodgelaw.TurnsPlay', WHERE WHAT IT READS IS OF BULK AT MOST 1048576: true; the input reads as it did. -/
def turnsPlayUptoRow : OpenClaim := { program := "ytghginiipknoeaa", sum := "a75fde71489f079cdf1df6dc8bddfe6d236816159f39ac72d5144e6d8db09162", func := "lifelodge/lifelodgelaw.TurnsPlay", spec := "turnsPlay", apart := false, narrowed := true }
def TurnsPlayUptoSaid : Prop := turnsPlayUptoRow.holds Try.pinned (OpenSpec.upto turnsPlaySpec)

end Rows
end Go.Proofs.Ytghginiipknoeaa
