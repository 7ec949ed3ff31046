/-
  No cell of these rows narrows 'for every input' (looked for: loops, veiled, ifaces, maps, wideKeys, modest, calm, conditions, laid).
  DERIVED. THE GIVEN ROWS OF THIS SEAT. 8 by the template 'for every input the law returns true; each argument reads behind the call as it read before'; 0 by the template 'total and deterministic' (their statements: YtffgpjkkgndkiaaTotals.lean).
  GIVEN WITH THE SEED: the statements are not yours to turn. If you find one false, say at which input.
  Laid BY PROGRAM, IN A SANDBOX (cutbox-rows.mjs): the forced cells as the released guide's own fill.sh prints them over the translation 242bba1247da8ed1… (all of the seat's roots in one cut). By AI agents, Wed Nov 11 2026. No macro, syntax, notation, axiom, sorry.
-/
import Derived.Test.YtffgpjkkgndkiaaChecked
import GoSem.Claim
import GoSem.ClaimJoined
import GoSem.ClaimMapViews
import Derived.JoinedTies
import Derived.KernelRfl
namespace Go.Proofs.Ytffgpjkkgndkiaa
/- THE CELL 'sum', in the pinned program and in every row, IS THE sha256 OF THE DUMP (.gsa) THAT YtffgpjkkgndkiaaProg.lean LOADS. Nothing in Lean hashes anything: it is a label: what it is worth is what the hold of that sum in a sandbox is worth. -/
noncomputable def Try.pinned : Pinned := { name := "ytffgpjkkgndkiaa", sum := "242bba1247da8ed10e9ac59bf21b0a41e9aa30f1f8a5351c34c7f9e95cfe8d5b", checked := Try.checked }
namespace Rows
def none {H : Type} : Left H := { results := [], args := [] }

/-- 'lifelodgelaw.RleReads': WHATEVER THE INPUT: true; the input reads as it did. -/
def rleReadsSpec : ChangeSpec := { name := "rleReads", fn := fun _ => fun
  | [d] => { results := [.lit (.bool true)], args := [d] }
  | _ => none }
def rleReadsRow : OpenClaim := { program := "ytffgpjkkgndkiaa", sum := "242bba1247da8ed10e9ac59bf21b0a41e9aa30f1f8a5351c34c7f9e95cfe8d5b", func := "lifelodge/lifelodgelaw.RleReads", spec := "rleReads", inPlace := ["internal/bytealg.IndexByteString", "internal/bytealg.IndexString"], named := ["internal/bytealg.MaxLen"], plainKeys := false, apart := false }
def RleReadsSaid : Prop := rleReadsRow.holds Try.pinned (OpenSpec.ofChange rleReadsSpec)

/-- ITS FALSE NEIGHBOUR: 'it returns false'. Refute it at one input. -/
def rleReadsWrong : ChangeSpec := { name := "rleReads", fn := fun _ => fun
  | [d] => { results := [.lit (.bool false)], args := [d] }
  | _ => none }
def RleReadsWrongFalsely : Prop := rleReadsRow.holds Try.pinned (OpenSpec.ofChange rleReadsWrong)

/-- 'lifelodgelaw.ArenaNil': WHATEVER THE INPUT: true; the input reads as it did. -/
def arenaNilSpec : ChangeSpec := { name := "arenaNil", fn := fun _ => fun
  | [d1, d2] => { results := [.lit (.bool true)], args := [d1, d2] }
  | _ => none }
def arenaNilRow : OpenClaim := { program := "ytffgpjkkgndkiaa", sum := "242bba1247da8ed10e9ac59bf21b0a41e9aa30f1f8a5351c34c7f9e95cfe8d5b", func := "lifelodge/lifelodgelaw.ArenaNil", spec := "arenaNil", unfollowed := true, recurses := true, plainKeys := false, apart := false }
def ArenaNilSaid : Prop := arenaNilRow.holds Try.pinned (OpenSpec.ofChange arenaNilSpec)

/-- ITS FALSE NEIGHBOUR: 'it returns false'. Refute it at one input. -/
def arenaNilWrong : ChangeSpec := { name := "arenaNil", fn := fun _ => fun
  | [d1, d2] => { results := [.lit (.bool false)], args := [d1, d2] }
  | _ => none }
def ArenaNilWrongFalsely : Prop := arenaNilRow.holds Try.pinned (OpenSpec.ofChange arenaNilWrong)

/-- 'lifelodgelaw.ArenaPlays': WHATEVER THE INPUT: true; the input reads as it did. -/
def arenaPlaysSpec : ChangeSpec := { name := "arenaPlays", fn := fun _ => fun
  | [d1, d2] => { results := [.lit (.bool true)], args := [d1, d2] }
  | _ => none }
def arenaPlaysRow : OpenClaim := { program := "ytffgpjkkgndkiaa", sum := "242bba1247da8ed10e9ac59bf21b0a41e9aa30f1f8a5351c34c7f9e95cfe8d5b", func := "lifelodge/lifelodgelaw.ArenaPlays", spec := "arenaPlays", unfollowed := true, recurses := true, plainKeys := false, apart := false }
def ArenaPlaysSaid : Prop := arenaPlaysRow.holds Try.pinned (OpenSpec.ofChange arenaPlaysSpec)

/-- ITS FALSE NEIGHBOUR: 'it returns false'. Refute it at one input. -/
def arenaPlaysWrong : ChangeSpec := { name := "arenaPlays", fn := fun _ => fun
  | [d1, d2] => { results := [.lit (.bool false)], args := [d1, d2] }
  | _ => none }
def ArenaPlaysWrongFalsely : Prop := arenaPlaysRow.holds Try.pinned (OpenSpec.ofChange arenaPlaysWrong)

/-- 'lifelodgelaw.PlaneTidies': WHATEVER THE INPUT: true; the input reads as it did. -/
def planeTidiesSpec : ChangeSpec := { name := "planeTidies", fn := fun _ => fun
  | [d] => { results := [.lit (.bool true)], args := [d] }
  | _ => none }
def planeTidiesRow : OpenClaim := { program := "ytffgpjkkgndkiaa", sum := "242bba1247da8ed10e9ac59bf21b0a41e9aa30f1f8a5351c34c7f9e95cfe8d5b", func := "lifelodge/lifelodgelaw.PlaneTidies", spec := "planeTidies", unfollowed := true, recurses := true, plainKeys := false, apart := false }
def PlaneTidiesSaid : Prop := planeTidiesRow.holds Try.pinned (OpenSpec.ofChange planeTidiesSpec)

/-- ITS FALSE NEIGHBOUR: 'it returns false'. Refute it at one input. -/
def planeTidiesWrong : ChangeSpec := { name := "planeTidies", fn := fun _ => fun
  | [d] => { results := [.lit (.bool false)], args := [d] }
  | _ => none }
def PlaneTidiesWrongFalsely : Prop := planeTidiesRow.holds Try.pinned (OpenSpec.ofChange planeTidiesWrong)

/-- 'lifelodgelaw.PlaneShifts': WHATEVER THE INPUT: true; the input reads as it did. -/
def planeShiftsSpec : ChangeSpec := { name := "planeShifts", fn := fun _ => fun
  | [d1, d2, d3] => { results := [.lit (.bool true)], args := [d1, d2, d3] }
  | _ => none }
def planeShiftsRow : OpenClaim := { program := "ytffgpjkkgndkiaa", sum := "242bba1247da8ed10e9ac59bf21b0a41e9aa30f1f8a5351c34c7f9e95cfe8d5b", func := "lifelodge/lifelodgelaw.PlaneShifts", spec := "planeShifts", unfollowed := true, recurses := true, plainKeys := false, apart := false }
def PlaneShiftsSaid : Prop := planeShiftsRow.holds Try.pinned (OpenSpec.ofChange planeShiftsSpec)

/-- ITS FALSE NEIGHBOUR: 'it returns false'. Refute it at one input. -/
def planeShiftsWrong : ChangeSpec := { name := "planeShifts", fn := fun _ => fun
  | [d1, d2, d3] => { results := [.lit (.bool false)], args := [d1, d2, d3] }
  | _ => none }
def PlaneShiftsWrongFalsely : Prop := planeShiftsRow.holds Try.pinned (OpenSpec.ofChange planeShiftsWrong)

/-- 'lifelodgelaw.RuleNexts': WHATEVER THE INPUT: true; the input reads as it did. -/
def ruleNextsSpec : ChangeSpec := { name := "ruleNexts", fn := fun _ => fun
  | [d1, d2] => { results := [.lit (.bool true)], args := [d1, d2] }
  | _ => none }
def ruleNextsRow : OpenClaim := { program := "ytffgpjkkgndkiaa", sum := "242bba1247da8ed10e9ac59bf21b0a41e9aa30f1f8a5351c34c7f9e95cfe8d5b", func := "lifelodge/lifelodgelaw.RuleNexts", spec := "ruleNexts", unfollowed := true, recurses := true, plainKeys := false, apart := false }
def RuleNextsSaid : Prop := ruleNextsRow.holds Try.pinned (OpenSpec.ofChange ruleNextsSpec)

/-- ITS FALSE NEIGHBOUR: 'it returns false'. Refute it at one input. -/
def ruleNextsWrong : ChangeSpec := { name := "ruleNexts", fn := fun _ => fun
  | [d1, d2] => { results := [.lit (.bool false)], args := [d1, d2] }
  | _ => none }
def RuleNextsWrongFalsely : Prop := ruleNextsRow.holds Try.pinned (OpenSpec.ofChange ruleNextsWrong)

/-- 'lifelodgelaw.PlaneMerges': WHATEVER THE INPUT: true; the input reads as it did. -/
def planeMergesSpec : ChangeSpec := { name := "planeMerges", fn := fun _ => fun
  | [d1, d2] => { results := [.lit (.bool true)], args := [d1, d2] }
  | _ => none }
def planeMergesRow : OpenClaim := { program := "ytffgpjkkgndkiaa", sum := "242bba1247da8ed10e9ac59bf21b0a41e9aa30f1f8a5351c34c7f9e95cfe8d5b", func := "lifelodge/lifelodgelaw.PlaneMerges", spec := "planeMerges", unfollowed := true, recurses := true, plainKeys := false, apart := false }
def PlaneMergesSaid : Prop := planeMergesRow.holds Try.pinned (OpenSpec.ofChange planeMergesSpec)

/-- ITS FALSE NEIGHBOUR: 'it returns false'. Refute it at one input. -/
def planeMergesWrong : ChangeSpec := { name := "planeMerges", fn := fun _ => fun
  | [d1, d2] => { results := [.lit (.bool false)], args := [d1, d2] }
  | _ => none }
def PlaneMergesWrongFalsely : Prop := planeMergesRow.holds Try.pinned (OpenSpec.ofChange planeMergesWrong)

/-- 'lifelodgelaw.RuleRuns': WHATEVER THE INPUT: true; the input reads as it did. -/
def ruleRunsSpec : ChangeSpec := { name := "ruleRuns", fn := fun _ => fun
  | [d1, d2, d3] => { results := [.lit (.bool true)], args := [d1, d2, d3] }
  | _ => none }
def ruleRunsRow : OpenClaim := { program := "ytffgpjkkgndkiaa", sum := "242bba1247da8ed10e9ac59bf21b0a41e9aa30f1f8a5351c34c7f9e95cfe8d5b", func := "lifelodge/lifelodgelaw.RuleRuns", spec := "ruleRuns", unfollowed := true, recurses := true, plainKeys := false, apart := false }
def RuleRunsSaid : Prop := ruleRunsRow.holds Try.pinned (OpenSpec.ofChange ruleRunsSpec)

/-- ITS FALSE NEIGHBOUR: 'it returns false'. Refute it at one input. -/
def ruleRunsWrong : ChangeSpec := { name := "ruleRuns", fn := fun _ => fun
  | [d1, d2, d3] => { results := [.lit (.bool false)], args := [d1, d2, d3] }
  | _ => none }
def RuleRunsWrongFalsely : Prop := ruleRunsRow.holds Try.pinned (OpenSpec.ofChange ruleRunsWrong)

/- THE SECOND FORM. 'bulk': how many values and letters a reading holds, each counted each time it is reached (what is shared counts as often as it is met; a slice's spare places count too). A statement '..UptoSaid' is the law's where the arguments, and the package variables that the reading takes, are together of bulk at most 1048576: NARROWER than '..Said'. Prove '..Said' where nothing that the law and all that it calls make is longer than what came in: it says more and counts as full. Else prove '..UptoSaid'. A law counts once. -/
mutual
def uptoBulk {H : Type} : DataW H → Nat
  | .lit (.string bytes) => bytes.length + 1
  | .lit _ => 1
  | .nil => 1
  | .ptr d => uptoBulk d + 1
  | .slice elems spare => uptoBulkAll elems + uptoBulkAll spare + 1
  | .agg parts => uptoBulkAll parts + 1
  | .iface _ d => uptoBulk d + 1
  | .map entries => uptoBulkEntries entries + 1
  | .held _ => 1
def uptoBulkAll {H : Type} : List (DataW H) → Nat
  | [] => 0
  | d :: r => uptoBulk d + uptoBulkAll r
def uptoBulkEntries {H : Type} : List (Lit × DataW H) → Nat
  | [] => 0
  | x :: r => uptoBulkEntry x + uptoBulkEntries r
def uptoBulkEntry {H : Type} : Lit × DataW H → Nat
  | (.string bytes, d) => bytes.length + uptoBulk d + 1
  | (_, d) => uptoBulk d + 1
 end
def uptoSmall : (H : Type) → List (DataW H) → Bool := fun _ ds => decide (uptoBulkAll ds ≤ 1048576)
def OpenSpec.upto (s : _root_.Go.ChangeSpec) : _root_.Go.OpenSpec := { _root_.Go.OpenSpec.ofChange s with cond := some uptoSmall }

/-- 'lifelodgelaw.RleReads', WHERE WHAT IT READS IS OF BULK AT MOST 1048576: true; the input reads as it did. -/
def rleReadsUptoRow : OpenClaim := { program := "ytffgpjkkgndkiaa", sum := "242bba1247da8ed10e9ac59bf21b0a41e9aa30f1f8a5351c34c7f9e95cfe8d5b", func := "lifelodge/lifelodgelaw.RleReads", spec := "rleReads", inPlace := ["internal/bytealg.IndexByteString", "internal/bytealg.IndexString"], named := ["internal/bytealg.MaxLen"], plainKeys := false, apart := false, narrowed := true }
def RleReadsUptoSaid : Prop := rleReadsUptoRow.holds Try.pinned (OpenSpec.upto rleReadsSpec)

/-- 'lifelodgelaw.ArenaNil', WHERE WHAT IT READS IS OF BULK AT MOST 1048576: true; the input reads as it did. -/
def arenaNilUptoRow : OpenClaim := { program := "ytffgpjkkgndkiaa", sum := "242bba1247da8ed10e9ac59bf21b0a41e9aa30f1f8a5351c34c7f9e95cfe8d5b", func := "lifelodge/lifelodgelaw.ArenaNil", spec := "arenaNil", unfollowed := true, recurses := true, plainKeys := false, apart := false, narrowed := true }
def ArenaNilUptoSaid : Prop := arenaNilUptoRow.holds Try.pinned (OpenSpec.upto arenaNilSpec)

/-- 'lifelodgelaw.ArenaPlays', WHERE WHAT IT READS IS OF BULK AT MOST 1048576: true; the input reads as it did. -/
def arenaPlaysUptoRow : OpenClaim := { program := "ytffgpjkkgndkiaa", sum := "242bba1247da8ed10e9ac59bf21b0a41e9aa30f1f8a5351c34c7f9e95cfe8d5b", func := "lifelodge/lifelodgelaw.ArenaPlays", spec := "arenaPlays", unfollowed := true, recurses := true, plainKeys := false, apart := false, narrowed := true }
def ArenaPlaysUptoSaid : Prop := arenaPlaysUptoRow.holds Try.pinned (OpenSpec.upto arenaPlaysSpec)

/-- 'lifelodgelaw.PlaneTidies', WHERE WHAT IT READS IS OF BULK AT MOST 1048576: true; the input reads as it did. -/
def planeTidiesUptoRow : OpenClaim := { program := "ytffgpjkkgndkiaa", sum := "242bba1247da8ed10e9ac59bf21b0a41e9aa30f1f8a5351c34c7f9e95cfe8d5b", func := "lifelodge/lifelodgelaw.PlaneTidies", spec := "planeTidies", unfollowed := true, recurses := true, plainKeys := false, apart := false, narrowed := true }
def PlaneTidiesUptoSaid : Prop := planeTidiesUptoRow.holds Try.pinned (OpenSpec.upto planeTidiesSpec)

/-- 'lifelodgelaw.PlaneShifts', WHERE WHAT IT READS IS OF BULK AT MOST 1048576: true; the input reads as it did. -/
def planeShiftsUptoRow : OpenClaim := { program := "ytffgpjkkgndkiaa", sum := "242bba1247da8ed10e9ac59bf21b0a41e9aa30f1f8a5351c34c7f9e95cfe8d5b", func := "lifelodge/lifelodgelaw.PlaneShifts", spec := "planeShifts", unfollowed := true, recurses := true, plainKeys := false, apart := false, narrowed := true }
def PlaneShiftsUptoSaid : Prop := planeShiftsUptoRow.holds Try.pinned (OpenSpec.upto planeShiftsSpec)

/-- 'lifelodgelaw.RuleNexts', WHERE WHAT IT READS IS OF BULK AT MOST 1048576: true; the input reads as it did. -/
def ruleNextsUptoRow : OpenClaim := { program := "ytffgpjkkgndkiaa", sum := "242bba1247da8ed10e9ac59bf21b0a41e9aa30f1f8a5351c34c7f9e95cfe8d5b", func := "lifelodge/lifelodgelaw.RuleNexts", spec := "ruleNexts", unfollowed := true, recurses := true, plainKeys := false, apart := false, narrowed := true }
def RuleNextsUptoSaid : Prop := ruleNextsUptoRow.holds Try.pinned (OpenSpec.upto ruleNextsSpec)

/-- 'lifelodgelaw.PlaneMerges', WHERE WHAT IT READS IS OF BULK AT MOST 1048576: true; the input reads as it did. -/
def planeMergesUptoRow : OpenClaim := { program := "ytffgpjkkgndkiaa", sum := "242bba1247da8ed10e9ac59bf21b0a41e9aa30f1f8a5351c34c7f9e95cfe8d5b", func := "lifelodge/lifelodgelaw.PlaneMerges", spec := "planeMerges", unfollowed := true, recurses := true, plainKeys := false, apart := false, narrowed := true }
def PlaneMergesUptoSaid : Prop := planeMergesUptoRow.holds Try.pinned (OpenSpec.upto planeMergesSpec)

/-- 'lifelodgelaw.RuleRuns', WHERE WHAT IT READS IS OF BULK AT MOST 1048576: true; the input reads as it did. -/
def ruleRunsUptoRow : OpenClaim := { program := "ytffgpjkkgndkiaa", sum := "242bba1247da8ed10e9ac59bf21b0a41e9aa30f1f8a5351c34c7f9e95cfe8d5b", func := "lifelodge/lifelodgelaw.RuleRuns", spec := "ruleRuns", unfollowed := true, recurses := true, plainKeys := false, apart := false, narrowed := true }
def RuleRunsUptoSaid : Prop := ruleRunsUptoRow.holds Try.pinned (OpenSpec.upto ruleRunsSpec)

end Rows
end Go.Proofs.Ytffgpjkkgndkiaa
