/-
  A world for the witness of a row that lists variables: each listed variable's cells hold what is listed.
-/
import Derived.Test.YtjbkfkgdpbjliaaDoorKinds
import Derived.Test.YtjbkfkgdpbjliaaDoorCards
import Derived.Test.YtjbkfkgdpbjliaaDoorTie
import Derived.Deep.DeepHandedRow
import Derived.Lib.LaidTab
import Derived.Deep.DeepWitnessRef
namespace Go.Proofs.YtjbkfkgdpbjliaaDoor
set_option maxRecDepth 100000
open Go.RowKit

def litV : DataW Unit → List Value
  | .lit (.int k n) => [.int k n]
  | .lit (.bool b) => [.bool b]
  | .lit (.string l) => [.string ⟨l.toArray⟩]
  | _ => []
def aggV : DataW Unit → List Value
  | .agg ps => ps.flatMap litV
  | d => litV d
/-- A table's cells. -/
def tabV : DataW Unit → List Value
  | .agg ps => ps.flatMap aggV
  | d => litV d
def laidIn (l : List Value) : Obj → Obj
  | .cells _ t frozen => .cells l.toArray t frozen
  | o => o
/-- An error's text in a new block, and the variable that points to it. -/
def pushErr (g tp ts : Nat) (text : List UInt8) (h : Array Obj) : Array Obj :=
  (h.push (.cells #[.string ⟨text.toArray⟩] ts (0, 0))).modify g (laidIn [.iface tp (.pointer (some ⟨h.size, 0, none⟩))])
def rowV : DataW Unit → List Value
  | .slice ds _ => ds.flatMap litV
  | _ => []
/-- A row of texts in a new block, and the variable that holds it. -/
def pushRow (g te : Nat) (d : DataW Unit) (h : Array Obj) : Array Obj :=
  (h.push (.cells (rowV d).toArray te (0, 0))).modify g (laidIn [.slice (some ⟨h.size, 0, none⟩) (rowV d).length (rowV d).length])
/-- A start of one's own making whose variables may hold slices that are not nil. -/
theorem witness_row_ref {H : Type} {enc : TypeId × Value → H} {C : Checked} {os : Os} {f : FuncId} {fn : Func} {s : OpenSpec} {conds : List PathCond} {apart : Bool} {laid : List (String × DataW Unit)} (modest : Bool) (w0 : World) (args : Array Value) (hos : w0.os = os)
    (hv : (w0.forCall (fun _ _ => 0) ⟨#[], args, []⟩).variablesRefB C.prog = true)
    (hr : ((w0.forCall (fun _ _ => 0) ⟨#[], args, []⟩).heap.toList.drop C.prog.globals.size).take ((begin C.prog (fun _ _ => 0) default).world.heap.size - C.prog.globals.size) =
      (begin C.prog (fun _ _ => 0) default).world.heap.toList.drop C.prog.globals.size)
    (hok : Input.okWideB C.prog (w0.forCall (fun _ _ => 0) ⟨#[], args, []⟩) f ⟨#[], args, []⟩ = true)
    (hrow : s.preRow enc C.prog fn conds apart laid (w0.forCall (fun _ _ => 0) ⟨#[], args, []⟩).memory args) :
    ∃ (w : World) (tape : Tape) (i : Input), w.os = os ∧ (w.forCall tape i).Shaped C.prog ∧ i.vars = [] ∧ Input.okWide C.prog (w.forCall tape i) .any w.heap.size f i ∧
      s.preRow enc C.prog fn conds apart laid (w.forCall tape i).memory i.args ∧ ({ modest := modest } : Assume).holds C.prog (lone (Frame.enter C.prog f i.args .normal) [] (w.forCall tape i)) := by
  obtain ⟨w, tape, i, h1, h2, h3, h4, h5, h6, _⟩ := OpenSpec.witness_stopped_atRef (enc := enc) (C := C) (fn := fn) (s := s) (conds := conds) (apart := apart) (laid := laid) modest w0 args hos hv hr hok hrow (fun _ _ _ => 0)
  exact ⟨w, tape, i, h1, h2, h3, h4, h5, h6⟩
end Go.Proofs.YtjbkfkgdpbjliaaDoor
