/-
  No cell of these rows narrows 'for every input' (looked for: loops, veiled, ifaces, maps, wideKeys, modest, calm, conditions, laid).
  DERIVED. THE GIVEN ROWS OF THIS SEAT. 7 by the template 'for every input the law returns true; each argument reads behind the call as it read before'; 0 by the template 'total and deterministic' (their statements: YtdmamecfmfhlmaaTotals.lean).
  GIVEN WITH THE SEED: the statements are not yours to turn. If you find one false, say at which input.
  Laid BY PROGRAM, IN A SANDBOX (cutbox-rows.mjs): the forced cells as the released guide's own fill.sh prints them over the translation 75e8cb1ed42eb281… (all of the seat's roots in one cut). By AI agents, Wed Nov 11 2026. No macro, syntax, notation, axiom, sorry.
-/
import Derived.Test.YtdmamecfmfhlmaaChecked
import GoSem.Claim
import GoSem.ClaimJoined
import GoSem.ClaimMapViews
import Derived.JoinedTies
import Derived.KernelRfl
namespace Go.Proofs.Ytdmamecfmfhlmaa
/- THE CELL 'sum', in the pinned program and in every row, IS THE sha256 OF THE DUMP (.gsa) THAT YtdmamecfmfhlmaaProg.lean LOADS. Nothing in Lean hashes anything: it is a label: what it is worth is what the hold of that sum in a sandbox is worth. -/
noncomputable def Try.pinned : Pinned := { name := "ytdmamecfmfhlmaa", sum := "75e8cb1ed42eb281d228d2e637be566fbc645ffa73e637d6e7d5707a4fd439ad", checked := Try.checked }
namespace Rows
def none {H : Type} : Left H := { results := [], args := [] }

/-- 'lifelodgelaw.QuadEmpties': WHATEVER THE INPUT: true; the input reads as it did. -/
def quadEmptiesSpec : ChangeSpec := { name := "quadEmpties", fn := fun _ => fun
  | [d] => { results := [.lit (.bool true)], args := [d] }
  | _ => none }
def quadEmptiesRow : OpenClaim := { program := "ytdmamecfmfhlmaa", sum := "75e8cb1ed42eb281d228d2e637be566fbc645ffa73e637d6e7d5707a4fd439ad", func := "lifelodge/lifelodgelaw.QuadEmpties", spec := "quadEmpties", unfollowed := true, recurses := true, plainKeys := false, apart := false }
def QuadEmptiesSaid : Prop := quadEmptiesRow.holds Try.pinned (OpenSpec.ofChange quadEmptiesSpec)

/-- ITS FALSE NEIGHBOUR: 'it returns false'. Refute it at one input. -/
def quadEmptiesWrong : ChangeSpec := { name := "quadEmpties", fn := fun _ => fun
  | [d] => { results := [.lit (.bool false)], args := [d] }
  | _ => none }
def QuadEmptiesWrongFalsely : Prop := quadEmptiesRow.holds Try.pinned (OpenSpec.ofChange quadEmptiesWrong)

/-- 'lifelodgelaw.QuadFroms': WHATEVER THE INPUT: true; the input reads as it did. -/
def quadFromsSpec : ChangeSpec := { name := "quadFroms", fn := fun _ => fun
  | [d] => { results := [.lit (.bool true)], args := [d] }
  | _ => none }
def quadFromsRow : OpenClaim := { program := "ytdmamecfmfhlmaa", sum := "75e8cb1ed42eb281d228d2e637be566fbc645ffa73e637d6e7d5707a4fd439ad", func := "lifelodge/lifelodgelaw.QuadFroms", spec := "quadFroms", unfollowed := true, recurses := true, plainKeys := false, apart := false }
def QuadFromsSaid : Prop := quadFromsRow.holds Try.pinned (OpenSpec.ofChange quadFromsSpec)

/-- ITS FALSE NEIGHBOUR: 'it returns false'. Refute it at one input. -/
def quadFromsWrong : ChangeSpec := { name := "quadFroms", fn := fun _ => fun
  | [d] => { results := [.lit (.bool false)], args := [d] }
  | _ => none }
def QuadFromsWrongFalsely : Prop := quadFromsRow.holds Try.pinned (OpenSpec.ofChange quadFromsWrong)

/-- 'lifelodgelaw.QuadPuts': WHATEVER THE INPUT: true; the input reads as it did. -/
def quadPutsSpec : ChangeSpec := { name := "quadPuts", fn := fun _ => fun
  | [d1, d2, d3] => { results := [.lit (.bool true)], args := [d1, d2, d3] }
  | _ => none }
def quadPutsRow : OpenClaim := { program := "ytdmamecfmfhlmaa", sum := "75e8cb1ed42eb281d228d2e637be566fbc645ffa73e637d6e7d5707a4fd439ad", func := "lifelodge/lifelodgelaw.QuadPuts", spec := "quadPuts", unfollowed := true, recurses := true, plainKeys := false, apart := false }
def QuadPutsSaid : Prop := quadPutsRow.holds Try.pinned (OpenSpec.ofChange quadPutsSpec)

/-- ITS FALSE NEIGHBOUR: 'it returns false'. Refute it at one input. -/
def quadPutsWrong : ChangeSpec := { name := "quadPuts", fn := fun _ => fun
  | [d1, d2, d3] => { results := [.lit (.bool false)], args := [d1, d2, d3] }
  | _ => none }
def QuadPutsWrongFalsely : Prop := quadPutsRow.holds Try.pinned (OpenSpec.ofChange quadPutsWrong)

/-- 'lifelodgelaw.QuadReads': WHATEVER THE INPUT: true; the input reads as it did. -/
def quadReadsSpec : ChangeSpec := { name := "quadReads", fn := fun _ => fun
  | [d] => { results := [.lit (.bool true)], args := [d] }
  | _ => none }
def quadReadsRow : OpenClaim := { program := "ytdmamecfmfhlmaa", sum := "75e8cb1ed42eb281d228d2e637be566fbc645ffa73e637d6e7d5707a4fd439ad", func := "lifelodge/lifelodgelaw.QuadReads", spec := "quadReads", unfollowed := true, recurses := true, plainKeys := false, apart := false }
def QuadReadsSaid : Prop := quadReadsRow.holds Try.pinned (OpenSpec.ofChange quadReadsSpec)

/-- ITS FALSE NEIGHBOUR: 'it returns false'. Refute it at one input. -/
def quadReadsWrong : ChangeSpec := { name := "quadReads", fn := fun _ => fun
  | [d] => { results := [.lit (.bool false)], args := [d] }
  | _ => none }
def QuadReadsWrongFalsely : Prop := quadReadsRow.holds Try.pinned (OpenSpec.ofChange quadReadsWrong)

/-- 'lifelodgelaw.QuadWraps': WHATEVER THE INPUT: true; the input reads as it did. -/
def quadWrapsSpec : ChangeSpec := { name := "quadWraps", fn := fun _ => fun
  | [d] => { results := [.lit (.bool true)], args := [d] }
  | _ => none }
def quadWrapsRow : OpenClaim := { program := "ytdmamecfmfhlmaa", sum := "75e8cb1ed42eb281d228d2e637be566fbc645ffa73e637d6e7d5707a4fd439ad", func := "lifelodge/lifelodgelaw.QuadWraps", spec := "quadWraps", unfollowed := true, recurses := true, plainKeys := false, apart := false }
def QuadWrapsSaid : Prop := quadWrapsRow.holds Try.pinned (OpenSpec.ofChange quadWrapsSpec)

/-- ITS FALSE NEIGHBOUR: 'it returns false'. Refute it at one input. -/
def quadWrapsWrong : ChangeSpec := { name := "quadWraps", fn := fun _ => fun
  | [d] => { results := [.lit (.bool false)], args := [d] }
  | _ => none }
def QuadWrapsWrongFalsely : Prop := quadWrapsRow.holds Try.pinned (OpenSpec.ofChange quadWrapsWrong)

/-- 'lifelodgelaw.QuadStrange': WHATEVER THE INPUT: true; the input reads as it did. -/
def quadStrangeSpec : ChangeSpec := { name := "quadStrange", fn := fun _ => fun
  | [d1, d2] => { results := [.lit (.bool true)], args := [d1, d2] }
  | _ => none }
def quadStrangeRow : OpenClaim := { program := "ytdmamecfmfhlmaa", sum := "75e8cb1ed42eb281d228d2e637be566fbc645ffa73e637d6e7d5707a4fd439ad", func := "lifelodge/lifelodgelaw.QuadStrange", spec := "quadStrange", unfollowed := true, recurses := true, plainKeys := false, apart := false }
def QuadStrangeSaid : Prop := quadStrangeRow.holds Try.pinned (OpenSpec.ofChange quadStrangeSpec)

/-- ITS FALSE NEIGHBOUR: 'it returns false'. Refute it at one input. -/
def quadStrangeWrong : ChangeSpec := { name := "quadStrange", fn := fun _ => fun
  | [d1, d2] => { results := [.lit (.bool false)], args := [d1, d2] }
  | _ => none }
def QuadStrangeWrongFalsely : Prop := quadStrangeRow.holds Try.pinned (OpenSpec.ofChange quadStrangeWrong)

/-- 'lifelodgelaw.ArenaPlays': WHATEVER THE INPUT: true; the input reads as it did. -/
def arenaPlaysSpec : ChangeSpec := { name := "arenaPlays", fn := fun _ => fun
  | [d1, d2] => { results := [.lit (.bool true)], args := [d1, d2] }
  | _ => none }
def arenaPlaysRow : OpenClaim := { program := "ytdmamecfmfhlmaa", sum := "75e8cb1ed42eb281d228d2e637be566fbc645ffa73e637d6e7d5707a4fd439ad", func := "lifelodge/lifelodgelaw.ArenaPlays", spec := "arenaPlays", unfollowed := true, recurses := true, plainKeys := false, apart := false }
def ArenaPlaysSaid : Prop := arenaPlaysRow.holds Try.pinned (OpenSpec.ofChange arenaPlaysSpec)

/-- ITS FALSE NEIGHBOUR: 'it returns false'. Refute it at one input. -/
def arenaPlaysWrong : ChangeSpec := { name := "arenaPlays", fn := fun _ => fun
  | [d1, d2] => { results := [.lit (.bool false)], args := [d1, d2] }
  | _ => none }
def ArenaPlaysWrongFalsely : Prop := arenaPlaysRow.holds Try.pinned (OpenSpec.ofChange arenaPlaysWrong)

/- THE SECOND FORM. 'bulk': how many values and letters a reading holds, each counted each time it is reached (what is shared counts as often as it is met; a slice's spare places count too). A statement '..UptoSaid' is the law's where the arguments, and the package variables that the reading takes, are together of bulk at most 1048576: NARROWER than '..Said'. Prove '..Said' where nothing that the law and all that it calls make is longer than what came in: it says more and counts as full. Else prove '..UptoSaid'. A law counts once. -/
mutual
def uptoBulk {H : Type} : DataW H → Nat
  | .lit (.string bytes) => bytes.length + 1
  | .lit _ => 1
  | .nil => 1
  | .ptr d => uptoBulk d + 1
  | .slice elems spare => uptoBulkAll elems + uptoBulkAll spare + 1
  | .agg parts => uptoBulkAll parts + 1
  | .iface _ d => uptoBulk d + 1
  | .map entries => uptoBulkEntries entries + 1
  | .held _ => 1
def uptoBulkAll {H : Type} : List (DataW H) → Nat
  | [] => 0
  | d :: r => uptoBulk d + uptoBulkAll r
def uptoBulkEntries {H : Type} : List (Lit × DataW H) → Nat
  | [] => 0
  | x :: r => uptoBulkEntry x + uptoBulkEntries r
def uptoBulkEntry {H : Type} : Lit × DataW H → Nat
  | (.string bytes, d) => bytes.length + uptoBulk d + 1
  | (_, d) => uptoBulk d + 1
 end
def uptoSmall : (H : Type) → List (DataW H) → Bool := fun _ ds => decide (uptoBulkAll ds ≤ 1048576)
def OpenSpec.upto (s : _root_.Go.ChangeSpec) : _root_.Go.OpenSpec := { _root_.Go.OpenSpec.ofChange s with cond := some uptoSmall }

/-- 'lifelodgelaw.QuadEmpties', WHERE WHAT IT READS IS OF BULK AT MOST 1048576: true; the input reads as it did. -/
def quadEmptiesUptoRow : OpenClaim := { program := "ytdmamecfmfhlmaa", sum := "75e8cb1ed42eb281d228d2e637be566fbc645ffa73e637d6e7d5707a4fd439ad", func := "lifelodge/lifelodgelaw.QuadEmpties", spec := "quadEmpties", unfollowed := true, recurses := true, plainKeys := false, apart := false, narrowed := true }
def QuadEmptiesUptoSaid : Prop := quadEmptiesUptoRow.holds Try.pinned (OpenSpec.upto quadEmptiesSpec)

/-- 'lifelodgelaw.QuadFroms', WHERE WHAT IT READS IS OF BULK AT MOST 1048576: true; the input reads as it did. -/
def quadFromsUptoRow : OpenClaim := { program := "ytdmamecfmfhlmaa", sum := "75e8cb1ed42eb281d228d2e637be566fbc645ffa73e637d6e7d5707a4fd439ad", func := "lifelodge/lifelodgelaw.QuadFroms", spec := "quadFroms", unfollowed := true, recurses := true, plainKeys := false, apart := false, narrowed := true }
def QuadFromsUptoSaid : Prop := quadFromsUptoRow.holds Try.pinned (OpenSpec.upto quadFromsSpec)

/-- 'lifelodgelaw.QuadPuts', WHERE WHAT IT READS IS OF BULK AT MOST 1048576: true; the input reads as it did. -/
def quadPutsUptoRow : OpenClaim := { program := "ytdmamecfmfhlmaa", sum := "75e8cb1ed42eb281d228d2e637be566fbc645ffa73e637d6e7d5707a4fd439ad", func := "lifelodge/lifelodgelaw.QuadPuts", spec := "quadPuts", unfollowed := true, recurses := true, plainKeys := false, apart := false, narrowed := true }
def QuadPutsUptoSaid : Prop := quadPutsUptoRow.holds Try.pinned (OpenSpec.upto quadPutsSpec)

/-- 'lifelodgelaw.QuadReads', WHERE WHAT IT READS IS OF BULK AT MOST 1048576: true; the input reads as it did. -/
def quadReadsUptoRow : OpenClaim := { program := "ytdmamecfmfhlmaa", sum := "75e8cb1ed42eb281d228d2e637be566fbc645ffa73e637d6e7d5707a4fd439ad", func := "lifelodge/lifelodgelaw.QuadReads", spec := "quadReads", unfollowed := true, recurses := true, plainKeys := false, apart := false, narrowed := true }
def QuadReadsUptoSaid : Prop := quadReadsUptoRow.holds Try.pinned (OpenSpec.upto quadReadsSpec)

/-- 'lifelodgelaw.QuadWraps', WHERE WHAT IT READS IS OF BULK AT MOST 1048576: true; the input reads as it did. -/
def quadWrapsUptoRow : OpenClaim := { program := "ytdmamecfmfhlmaa", sum := "75e8cb1ed42eb281d228d2e637be566fbc645ffa73e637d6e7d5707a4fd439ad", func := "lifelodge/lifelodgelaw.QuadWraps", spec := "quadWraps", unfollowed := true, recurses := true, plainKeys := false, apart := false, narrowed := true }
def QuadWrapsUptoSaid : Prop := quadWrapsUptoRow.holds Try.pinned (OpenSpec.upto quadWrapsSpec)

/-- 'lifelodgelaw.QuadStrange', WHERE WHAT IT READS IS OF BULK AT MOST 1048576: true; the input reads as it did. -/
def quadStrangeUptoRow : OpenClaim := { program := "ytdmamecfmfhlmaa", sum := "75e8cb1ed42eb281d228d2e637be566fbc645ffa73e637d6e7d5707a4fd439ad", func := "lifelodge/lifelodgelaw.QuadStrange", spec := "quadStrange", unfollowed := true, recurses := true, plainKeys := false, apart := false, narrowed := true }
def QuadStrangeUptoSaid : Prop := quadStrangeUptoRow.holds Try.pinned (OpenSpec.upto quadStrangeSpec)

/-- 'lifelodgelaw.ArenaPlays', WHERE WHAT IT READS IS OF BULK AT MOST 1048576: true; the input reads as it did. -/
def arenaPlaysUptoRow : OpenClaim := { program := "ytdmamecfmfhlmaa", sum := "75e8cb1ed42eb281d228d2e637be566fbc645ffa73e637d6e7d5707a4fd439ad", func := "lifelodge/lifelodgelaw.ArenaPlays", spec := "arenaPlays", unfollowed := true, recurses := true, plainKeys := false, apart := false, narrowed := true }
def ArenaPlaysUptoSaid : Prop := arenaPlaysUptoRow.holds Try.pinned (OpenSpec.upto arenaPlaysSpec)

end Rows
end Go.Proofs.Ytdmamecfmfhlmaa
