/-
  A world for the witness of a row that lists variables: each listed variable's cells hold what is listed.
-/
import Derived.Test.YtdmamecfmfhlmaaDoorKinds
import Derived.Test.YtdmamecfmfhlmaaDoorCards
import Derived.Test.YtdmamecfmfhlmaaDoorTie
import Derived.Deep.DeepHandedRow
import Derived.Lib.LaidTab
namespace Go.Proofs.YtdmamecfmfhlmaaDoor
set_option maxRecDepth 100000
open Go.RowKit

def litV : DataW Unit → List Value
  | .lit (.int k n) => [.int k n]
  | .lit (.bool b) => [.bool b]
  | .lit (.string l) => [.string ⟨l.toArray⟩]
  | _ => []
def aggV : DataW Unit → List Value
  | .agg ps => ps.flatMap litV
  | d => litV d
/-- A table's cells. -/
def tabV : DataW Unit → List Value
  | .agg ps => ps.flatMap aggV
  | d => litV d
def laidIn (l : List Value) : Obj → Obj
  | .cells _ t frozen => .cells l.toArray t frozen
  | o => o
/-- An error's text in a new block, and the variable that points to it. -/
def pushErr (g tp ts : Nat) (text : List UInt8) (h : Array Obj) : Array Obj :=
  (h.push (.cells #[.string ⟨text.toArray⟩] ts (0, 0))).modify g (laidIn [.iface tp (.pointer (some ⟨h.size, 0, none⟩))])
end Go.Proofs.YtdmamecfmfhlmaaDoor
