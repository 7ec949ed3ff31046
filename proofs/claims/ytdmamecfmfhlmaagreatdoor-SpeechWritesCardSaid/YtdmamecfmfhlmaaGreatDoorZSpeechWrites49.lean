/-
  The copy of a list of cells; A request as an argument of a law; A world for the witness of a row that lists variables: each listed variable's cells hold what is listed.
-/
import Derived.Laws.AppendOwnNone
import Derived.Test.YtdmamecfmfhlmaaGreatDoorCards
import Derived.Test.YtdmamecfmfhlmaaGreatDoorTie
import Derived.Deep.DeepHandedRow
import Derived.Lib.LaidTab
import Derived.Deep.DeepWitnessRef
import Derived.Test.YtdmamecfmfhlmaaGreatDoorKinds
namespace Go.Proofs.YtdmamecfmfhlmaaGreatDoor
set_option maxRecDepth 100000
open Go.RowKit

theorem infoCell : (Tryz.prog.info? 35).map (fun i => (i.zero, i.size, i.bytes)) = some (some (.agg #[.int .i64 0, .int .i64 0]), 2, 16) := by kernel_rfl

theorem sl_own_up {w w' : World} {base : Nat} {e : TypeId} {k bytes n : Nat} {a : Option Addr} {cap : Nat} {fl : List Value} (h : w.ownsRow base e k (.slice a n cap) n fl) (hk : 0 < k) (hb : n * bytes ≤ 140737488351232) (hg : Below w.heap.size w w') : Sl w' k bytes a n cap fl := by
  obtain ⟨a', c', e1, hs⟩ := sl_of_own h hb
  simp only [Value.slice.injEq, true_and] at e1
  obtain ⟨rfl, rfl⟩ := e1
  exact hs.below hk hg

theorem encCell_one (zs : List (Int × Int)) : ∀ u ∈ zs.flatMap encCell, u.oneCell' = true := by
  intro u hu
  obtain ⟨k, _, h⟩ := List.mem_flatMap.1 hu
  simp only [encCell, List.mem_cons, List.not_mem_nil, or_false] at h
  rcases h with rfl | rfl <;> rfl

/-- A list of cells that the call owns. -/
def Cells (w : World) (zs : List (Int × Int)) (e : Ending) (w' : World) : Prop :=
  ∃ v', e = .returned v' ∧ Below w.heap.size w w' ∧ w'.ownsRow w.heap.size 35 2 v' zs.length (zs.flatMap encCell)

set_option maxRecDepth 100000 in
set_option maxHeartbeats 1000000 in
theorem cells_any (zs : List (Int × Int)) (a : Option Addr) (cap : Nat) (w : World) (hs : Sl w 2 16 a zs.length cap (zs.flatMap encCell)) :
    Calls Tryz.prog 11 #[.slice a zs.length cap] w (Cells w zs) := by
  obtain ⟨i0, hi, hz0, hz1, hz2⟩ := info_parts infoCell
  have hn := hs.wide
  have hl := hs.len
  match ha : a with
  | none =>
    have hc : cap = 0 := hs.nil rfl
    have hk0 : zs = [] := List.eq_nil_of_length_eq_zero (by have := hs.room; omega)
    subst hc
    subst hk0
    clear hl hn
    go_enter Tryz.func11, Tryz.ntmps11
    go_wp2_with ((at_builtin; refine wpList_append_own_none rfl _ _ 24 rfl w.heap.size 35 i0 2 Tryz.underlying24 hi _ 0 [] rfl (World.ownsRow_nil _ _ _ _) rfl ?_))
    refine bodyPost_ret (v := .slice none 0 0) (by simp [results, Tryz.results11, go_sem]) rfl ⟨_, rfl, Below.refl _ _, World.ownsRow_nil _ _ _ _⟩
  | some ad =>
    have hW : ∀ j u, (zs.flatMap encCell)[j]? = some u → w.cell? (ad.add j) = some u := hs.news
    clear hl
    go_enter Tryz.func11, Tryz.ntmps11
    go_wp2_with ((at_builtin; refine wpList_append_own_at _ rfl _ _ 24 rfl w.heap.size 35 i0 _ 2 16 Tryz.underlying24 hi hz0 hz1 hz2 rfl (by omega) (.slice none 0 0) 0 [] rfl (World.ownsRow_nil _ _ _ _) ad zs.length cap (zs.flatMap encCell) rfl hs.len hW (encCell_one zs) (by unfold maxLen; omega) (by omega) (by simp) ?_; intro v1 w1 hown1 hgrow1 hnil1 hat1; rw [Nat.zero_add, List.nil_append] at hown1; obtain ⟨va, vc, rfl⟩ := own_form hown1; clear hnil1 hat1))
    refine bodyPost_ret (v := .slice va zs.length vc) (by simp [results, Tryz.results11, go_sem]) rfl ⟨_, rfl, (Below.refl _ _).grown hgrow1 (Nat.le_refl _) (by simp [Value.ownBlock]), hown1⟩
end Go.Proofs.YtdmamecfmfhlmaaGreatDoor
namespace Go.Proofs.YtdmamecfmfhlmaaGreatDoor
set_option maxRecDepth 100000
open Go.RowKit Go.ChangeShapes Go.WideShapes

/-- A request: its plain fields. -/
structure ReqD where
  verb : Int
  name : ByteArray
  other : ByteArray
  b : Int
  l : Int
  n : Int
def ReqD.cells (q : ReqD) (cv : Value) : List Value := [.int .i64 q.verb, .string q.name, .string q.other, .int .i64 q.b, .int .i64 q.l, .int .i64 q.n, cv]
def ReqD.Good (q : ReqD) : Prop := I64 q.verb ∧ q.name.size ≤ 140737488351232 ∧ q.other.size ≤ 140737488351232 ∧ I64 q.b ∧ I64 q.l ∧ I64 q.n
def Is_request (w : World) (v : Value) : Prop := ∃ (q : ReqD) (cv : Value) (zs : List (Int × Int)), v = .agg (q.cells cv).toArray ∧ q.Good ∧ IsSl w 2 16 cv zs.length (zs.flatMap encCell) ∧ ∀ z ∈ zs, GoodCell z
def RCellR (w : World) (z : Int × Int) (cs : List Value) : Prop := RTwo w (z.1, z.2, ()) cs
theorem o_request : Opens Tryz.prog 26 7 (RCons 1 RInt (RCons 1 RStr (RCons 1 RStr (RCons 2 RTwo (RCons 1 RInt (RCons 1 (RSlice 2 16 RCellR) RNil)))))) :=
  opens_struct Tryz.underlying26 (by kernel_rfl) (opensFields_cons rfl o_int (opensFields_cons rfl o_string (opensFields_cons rfl o_string (opensFields_cons rfl o_rule (opensFields_cons rfl o_int (opensFields_cons rfl (opens_slice Tryz.underlying24 (by kernel_rfl) (by kernel_rfl) (by omega) o_cell) opensFields_nil))))))
theorem rreq_iff {w : World} {z : Int × ByteArray × ByteArray × (Int × Int × Unit) × Int × List (Int × Int) × Unit} {cs : List Value}
    (h : RCons 1 RInt (RCons 1 RStr (RCons 1 RStr (RCons 2 RTwo (RCons 1 RInt (RCons 1 (RSlice 2 16 RCellR) RNil))))) w z cs) :
    ∃ (q : ReqD) (cv : Value) (zs : List (Int × Int)), cs = q.cells cv ∧ q.Good ∧ IsSl w 2 16 cv zs.length (zs.flatMap encCell) ∧ ∀ z ∈ zs, GoodCell z := by
  obtain ⟨⟨h1, g1⟩, ⟨h2, g2⟩, ⟨h3, g3⟩, h4, ⟨h5, g5⟩, h6, h7⟩ := h
  obtain ⟨e4, g4, g4'⟩ := rtwo_iff h4
  have hnil : RNil w z.2.2.2.2.2.2 _ := h7
  match cs, h1, h2, h3, e4, h5, h6, h7 with
  | [a0, a1, a2, a3, a4, a5, a6], h1, h2, h3, e4, h5, h6, h7 =>
    simp at h1 h2 h3 e4 h5
    obtain ⟨e3, e4⟩ := e4
    subst h1 h2 h3 e3 e4 h5
    have h6' : RSlice 2 16 RCellR w z.2.2.2.2.2.1 [a6] := h6
    obtain ⟨hs, hg⟩ := isSl_of (k := 2) (enc := encCell) (Good := GoodCell) (by omega) encCell_len (fun w z c hc => ⟨(rtwo_iff (z := (z.1, z.2, ())) hc).1, (rtwo_iff (z := (z.1, z.2, ())) hc).2⟩) h6'
    exact ⟨⟨z.1, z.2.1, z.2.2.1, z.2.2.2.1.1, z.2.2.2.1.2.1, z.2.2.2.2.1⟩, a6, z.2.2.2.2.2.1, rfl, ⟨g1, g2, g3, g4, g4', g5⟩, hs, hg⟩
theorem open_request {H : Type} {enc : TypeId × Value → H} {w : World} {v : Value} {d : DataW H} {ps : List MemPlace} {r : Go.Reach} {b0 : Nat}
    (hv : Value.okWide Tryz.prog w r b0 26 v) (h : DataW.Trod enc Tryz.prog w 0 (fun _ => true) true 26 v d ps) (hw : ∀ n ∈ d.weights Tryz.prog 26, n ≤ reachBytes) : Is_request w v := by
  obtain ⟨cs, rfl, hsz⟩ := okWide_struct Tryz.underlying26 hv
  obtain ⟨z, hz⟩ := opens_value o_request h hw
  obtain ⟨q, cv, zs, e, hg, hs, hz⟩ := rreq_iff hz
  exact ⟨q, cv, zs, by congr 1; apply Array.toList_inj.1; simpa [Value.cells] using e, hg, hs, hz⟩
end Go.Proofs.YtdmamecfmfhlmaaGreatDoor
namespace Go.Proofs.YtdmamecfmfhlmaaGreatDoor
set_option maxRecDepth 100000
open Go.RowKit

def litV : DataW Unit → List Value
  | .lit (.int k n) => [.int k n]
  | .lit (.bool b) => [.bool b]
  | .lit (.string l) => [.string ⟨l.toArray⟩]
  | _ => []
def aggV : DataW Unit → List Value
  | .agg ps => ps.flatMap litV
  | d => litV d
/-- A table's cells. -/
def tabV : DataW Unit → List Value
  | .agg ps => ps.flatMap aggV
  | d => litV d
def laidIn (l : List Value) : Obj → Obj
  | .cells _ t frozen => .cells l.toArray t frozen
  | o => o
/-- An error's text in a new block, and the variable that points to it. -/
def pushErr (g tp ts : Nat) (text : List UInt8) (h : Array Obj) : Array Obj :=
  (h.push (.cells #[.string ⟨text.toArray⟩] ts (0, 0))).modify g (laidIn [.iface tp (.pointer (some ⟨h.size, 0, none⟩))])
def rowV : DataW Unit → List Value
  | .slice ds _ => ds.flatMap litV
  | _ => []
/-- A row of texts in a new block, and the variable that holds it. -/
def pushRow (g te : Nat) (d : DataW Unit) (h : Array Obj) : Array Obj :=
  (h.push (.cells (rowV d).toArray te (0, 0))).modify g (laidIn [.slice (some ⟨h.size, 0, none⟩) (rowV d).length (rowV d).length])
/-- A start of one's own making whose variables may hold slices that are not nil. -/
theorem witness_row_ref {H : Type} {enc : TypeId × Value → H} {C : Checked} {os : Os} {f : FuncId} {fn : Func} {s : OpenSpec} {conds : List PathCond} {apart : Bool} {laid : List (String × DataW Unit)} (modest : Bool) (w0 : World) (args : Array Value) (hos : w0.os = os)
    (hv : (w0.forCall (fun _ _ => 0) ⟨#[], args, []⟩).variablesRefB C.prog = true)
    (hr : ((w0.forCall (fun _ _ => 0) ⟨#[], args, []⟩).heap.toList.drop C.prog.globals.size).take ((begin C.prog (fun _ _ => 0) default).world.heap.size - C.prog.globals.size) =
      (begin C.prog (fun _ _ => 0) default).world.heap.toList.drop C.prog.globals.size)
    (hok : Input.okWideB C.prog (w0.forCall (fun _ _ => 0) ⟨#[], args, []⟩) f ⟨#[], args, []⟩ = true)
    (hrow : s.preRow enc C.prog fn conds apart laid (w0.forCall (fun _ _ => 0) ⟨#[], args, []⟩).memory args) :
    ∃ (w : World) (tape : Tape) (i : Input), w.os = os ∧ (w.forCall tape i).Shaped C.prog ∧ i.vars = [] ∧ Input.okWide C.prog (w.forCall tape i) .any w.heap.size f i ∧
      s.preRow enc C.prog fn conds apart laid (w.forCall tape i).memory i.args ∧ ({ modest := modest } : Assume).holds C.prog (lone (Frame.enter C.prog f i.args .normal) [] (w.forCall tape i)) := by
  obtain ⟨w, tape, i, h1, h2, h3, h4, h5, h6, _⟩ := OpenSpec.witness_stopped_atRef (enc := enc) (C := C) (fn := fn) (s := s) (conds := conds) (apart := apart) (laid := laid) modest w0 args hos hv hr hok hrow (fun _ _ _ => 0)
  exact ⟨w, tape, i, h1, h2, h3, h4, h5, h6⟩
end Go.Proofs.YtdmamecfmfhlmaaGreatDoor
