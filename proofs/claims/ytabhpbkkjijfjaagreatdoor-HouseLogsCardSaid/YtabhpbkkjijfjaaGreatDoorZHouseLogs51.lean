/-
  Numbers of tenants, and which tenant a deed names; Further arguments of the laws: arrays, moves, cells, deeds, requests, answers; A world for the witness of a row that lists variables: each listed variable's cells hold what is listed.
-/
import Derived.Test.YtabhpbkkjijfjaaGreatDoorCards
import Derived.Test.YtabhpbkkjijfjaaGreatDoorTie
import Derived.Deep.DeepHandedRow
import Derived.Lib.LaidTab
import Derived.Deep.DeepWitnessRef
import Derived.Test.YtabhpbkkjijfjaaGreatDoorKinds
namespace Go.Proofs.YtabhpbkkjijfjaaGreatDoor
set_option maxRecDepth 100000
open Go.RowKit

theorem wrap64_small {x : Int} (h1 : -1000 ≤ x) (h2 : x ≤ 1000) : wrap64 x = x := by
  unfold wrap64; omega
theorem tmod_small (a : Int) {b : Nat} (hb : 1 ≤ b) : -(b : Int) < a.tmod b ∧ a.tmod b < b := by
  have h := Int.tmod_lt_of_pos a (show (0 : Int) < b by omega)
  have h2 := Int.lt_tmod_of_pos a (show (0 : Int) < b by omega)
  exact ⟨h2, h⟩
theorem num_mod (a : Int) {N : Nat} (h1 : 1 ≤ N) (h5 : N ≤ 5) : ∃ t : Nat, (wrap64 (a.tmod N + N)).tmod N = (t : Int) ∧ t < N := by
  obtain ⟨e1, e2⟩ := tmod_small a h1
  obtain ⟨m, hm⟩ : ∃ m, m = a.tmod (N : Int) := ⟨_, rfl⟩
  rw [← hm] at e1 e2 ⊢
  rw [wrap64_small (by omega) (by omega)]
  obtain ⟨k, hk⟩ := Int.eq_ofNat_of_zero_le (show 0 ≤ m + N by omega)
  rw [hk, Int.tmod_eq_emod_of_nonneg (by omega)]
  exact ⟨k % N, by simp, Nat.mod_lt _ (by omega)⟩
theorem num_five (a : Int) : ∃ N : Nat, wrap64 (1 + (wrap64 (a.tmod 5 + 5)).tmod 5) = (N : Int) ∧ 1 ≤ N ∧ N ≤ 5 := by
  obtain ⟨t, e, ht⟩ := num_mod a (N := 5) (by omega) (by omega)
  have e' : (wrap64 (a.tmod 5 + 5)).tmod 5 = (t : Int) := e
  rw [e', wrap64_small (by omega) (by omega)]
  exact ⟨1 + t, by omega, by omega, by omega⟩
end Go.Proofs.YtabhpbkkjijfjaaGreatDoor
namespace Go.Proofs.YtabhpbkkjijfjaaGreatDoor
set_option maxRecDepth 100000
open Go.RowKit Go.ChangeShapes Go.WideShapes

def RArr {α : Type} (n k : Nat) (R : World → α → List Value → Prop) (w : World) (zs : List α) (cs : List Value) : Prop :=
  zs.length = n ∧ cs.length = n * k ∧ ∀ i z, zs[i]? = some z → R w z ((cs.drop (i * k)).take k)
theorem opens_array {P : Program} {t e : TypeId} {n k : Nat} {α : Type} {R : World → α → List Value → Prop} (ht : P.underlying t = some (.array n e)) (hk : P.cellsOf t = n * k) (he : Opens P e k R) :
    Opens P t (n * k) (RArr n k R) :=
  ⟨hk, fun enc w fuel cs x h hw => by
    obtain ⟨xs, m, _, rfl, hl, hlen, hall⟩ := DataW.trod_array ht h
    rw [he.1] at hall
    have key : ∀ i, i < n → ∃ z, R w z ((cs.drop (i * k)).take k) := fun i hi => by
      have hx := hall i hi
      rw [List.getElem?_eq_getElem (by omega)] at hx
      have hwi : ∀ q ∈ (xs[i].1).weights P e, q ≤ reachBytes := fun q hq => hw q (by
        simp only [DataW.weights, ht]
        exact weightsAll_mem (d := xs[i].1) (List.mem_map.2 ⟨xs[i], List.getElem_mem _, rfl⟩) hq)
      exact (he.2 enc w m _ _ hx hwi).2
    obtain ⟨zs, h1, h2⟩ := choose_list n key
    exact ⟨by omega, zs, h1, by omega, h2⟩⟩
theorem okWide_array {P : Program} {w : World} {r : Go.Reach} {base : Nat} {t : TypeId} {v : Value} {n : Nat} {e : TypeId} (ht : P.underlying t = some (.array n e)) (h : Value.okWide P w r base t v) : ∃ cs, v = .agg cs ∧ cs.size = P.cellsOf t := by
  simp only [Value.okWide, ht] at h
  obtain ⟨cs, h1, h2, _⟩ := h
  exact ⟨cs, h1, h2⟩
/-- Four numbers. -/
structure Quad where
  a : Int
  b : Int
  c : Int
  d : Int
def Quad.cells (q : Quad) : List Value := [.int .i64 q.a, .int .i64 q.b, .int .i64 q.c, .int .i64 q.d]
def Quad.Good (q : Quad) : Prop := I64 q.a ∧ I64 q.b ∧ I64 q.c ∧ I64 q.d
def RQuad (_ : World) (q : Quad) (cs : List Value) : Prop := cs = q.cells ∧ q.Good
theorem rquad_of {w : World} {zs : List Int} {cs : List Value} (h : RArr 4 1 RInt w zs cs) : ∃ q, RQuad w q cs := by
  obtain ⟨h1, h2, h3⟩ := h
  match zs, h1, cs, h2 with
  | [a, b, c, d], _, [x0, x1, x2, x3], _ =>
    obtain ⟨e0, g0, g0'⟩ := h3 0 a rfl
    obtain ⟨e1, g1, g1'⟩ := h3 1 b rfl
    obtain ⟨e2, g2, g2'⟩ := h3 2 c rfl
    obtain ⟨e3, g3, g3'⟩ := h3 3 d rfl
    simp at e0 e1 e2 e3
    exact ⟨⟨a, b, c, d⟩, by rw [Quad.cells, e0, e1, e2, e3], ⟨g0, g0'⟩, ⟨g1, g1'⟩, ⟨g2, g2'⟩, ⟨g3, g3'⟩⟩
theorem o_quad : Opens Tryz.prog 207 4 RQuad :=
  ⟨(by kernel_rfl), fun enc w fuel cs x h hw => by
    obtain ⟨hl, zs, hz⟩ := (opens_array (n := 4) (k := 1) Tryz.underlying207 (by kernel_rfl) o_int).2 enc w fuel cs x h hw
    exact ⟨hl, rquad_of hz⟩⟩
def Is_four (_ : World) (v : Value) : Prop := ∃ q : Quad, v = .agg q.cells.toArray ∧ q.Good
theorem open_four {H : Type} {enc : TypeId × Value → H} {w : World} {v : Value} {d : DataW H} {ps : List MemPlace} {r : Go.Reach} {b0 : Nat}
    (hv : Value.okWide Tryz.prog w r b0 207 v) (h : DataW.Trod enc Tryz.prog w 0 (fun _ => true) true 207 v d ps) (hw : ∀ n ∈ d.weights Tryz.prog 207, n ≤ reachBytes) : Is_four w v := by
  obtain ⟨cs, rfl, hsz⟩ := okWide_array Tryz.underlying207 hv
  obtain ⟨q, hq, hg⟩ := opens_value o_quad h hw
  exact ⟨q, by congr 1; apply Array.toList_inj.1; simpa [Value.cells] using hq, hg⟩
/-! ### A cell -/
def Is_cell (_ : World) (v : Value) : Prop := ∃ b l, v = .agg #[.int .i64 b, .int .i64 l] ∧ I64 b ∧ I64 l
theorem open_cell {H : Type} {enc : TypeId × Value → H} {w : World} {v : Value} {d : DataW H} {ps : List MemPlace} {r : Go.Reach} {b0 : Nat}
    (hv : Value.okWide Tryz.prog w r b0 145 v) (h : DataW.Trod enc Tryz.prog w 0 (fun _ => true) true 145 v d ps) (hw : ∀ n ∈ d.weights Tryz.prog 145, n ≤ reachBytes) : Is_cell w v := by
  obtain ⟨cs, rfl, hsz⟩ := okWide_struct Tryz.underlying145 hv
  obtain ⟨z, hz⟩ := opens_value (opens_struct Tryz.underlying145 (k := 2) (by kernel_rfl) (opensFields_cons rfl o_int (opensFields_cons rfl o_int opensFields_nil))) h hw
  obtain ⟨e, h1, h2⟩ := rtwo_iff hz
  exact ⟨z.1, z.2.1, by congr 1; apply Array.toList_inj.1; simpa [Value.cells] using e, h1, h2⟩
/-! ### Moves -/
structure MoveD where
  kind : Int
  tenant : Int
  a : Quad
def encMove (m : MoveD) : List Value := .int .i64 m.kind :: .int .i64 m.tenant :: m.a.cells
def GoodMove (m : MoveD) : Prop := I64 m.kind ∧ I64 m.tenant ∧ m.a.Good
def Is_moves (w : World) (v : Value) : Prop := ∃ ks : List MoveD, IsSl w 6 48 v ks.length (ks.flatMap encMove) ∧ ∀ k ∈ ks, GoodMove k
/-! ### Deeds -/
structure DeedD where
  kind : Int
  tenant : Int
  n : Int
  bytes : ByteArray
def encDeed (k : DeedD) : List Value := [.int .i64 k.kind, .int .i64 k.tenant, .int .i64 k.n, .string k.bytes]
def GoodDeed (k : DeedD) : Prop := I64 k.kind ∧ I64 k.tenant ∧ I64 k.n ∧ k.bytes.size ≤ 140737488351232
def Is_deeds (w : World) (v : Value) : Prop := ∃ ks : List DeedD, IsSl w 4 40 v ks.length (ks.flatMap encDeed) ∧ ∀ k ∈ ks, GoodDeed k
theorem o_deed : Opens Tryz.prog 38 4 (fun _ (k : DeedD) cs => cs = encDeed k ∧ GoodDeed k) :=
  ⟨(by kernel_rfl), fun enc w fuel cs x h hw => by
    obtain ⟨hl, z, ⟨h1, h2⟩, ⟨h4, h5⟩, ⟨h7, h8⟩, ⟨h9, h10⟩, h11⟩ := (opens_struct Tryz.underlying38 (by kernel_rfl) (opensFields_cons rfl o_int (opensFields_cons rfl o_int (opensFields_cons rfl o_int (opensFields_cons rfl o_string opensFields_nil))))).2 enc w fuel cs x h hw
    refine ⟨hl, ⟨z.1, z.2.1, z.2.2.1, z.2.2.2.1⟩, ?_⟩
    match cs, hl with
    | [a, b, c, d], _ =>
      simp at h1 h4 h7 h9
      subst h1; subst h4; subst h7; subst h9
      exact ⟨rfl, h2, h5, h8, h10⟩⟩
theorem open_deeds {H : Type} {enc : TypeId × Value → H} {w : World} {v : Value} {d : DataW H} {ps : List MemPlace} {r : Go.Reach} {b0 : Nat}
    (hv : Value.okWide Tryz.prog w r b0 22 v) (h : DataW.Trod enc Tryz.prog w 0 (fun _ => true) true 22 v d ps) (hw : ∀ n ∈ d.weights Tryz.prog 22, n ≤ reachBytes) : Is_deeds w v := by
  obtain ⟨a, len, cap, rfl⟩ := okWide_slice Tryz.underlying22 hv
  obtain ⟨zs, hz⟩ := opens_value (opens_slice Tryz.underlying22 (by kernel_rfl) (by kernel_rfl) (by omega) o_deed) h hw
  exact ⟨zs, isSl_of (k := 4) (enc := encDeed) (Good := GoodDeed) (by omega) (fun _ => rfl) (fun w z c hc => hc) hz⟩
end Go.Proofs.YtabhpbkkjijfjaaGreatDoor
namespace Go.Proofs.YtabhpbkkjijfjaaGreatDoor
set_option maxRecDepth 100000
open Go.RowKit

def litV : DataW Unit → List Value
  | .lit (.int k n) => [.int k n]
  | .lit (.bool b) => [.bool b]
  | .lit (.string l) => [.string ⟨l.toArray⟩]
  | _ => []
def aggV : DataW Unit → List Value
  | .agg ps => ps.flatMap litV
  | d => litV d
/-- A table's cells. -/
def tabV : DataW Unit → List Value
  | .agg ps => ps.flatMap aggV
  | d => litV d
def laidIn (l : List Value) : Obj → Obj
  | .cells _ t frozen => .cells l.toArray t frozen
  | o => o
/-- An error's text in a new block, and the variable that points to it. -/
def pushErr (g tp ts : Nat) (text : List UInt8) (h : Array Obj) : Array Obj :=
  (h.push (.cells #[.string ⟨text.toArray⟩] ts (0, 0))).modify g (laidIn [.iface tp (.pointer (some ⟨h.size, 0, none⟩))])
def rowV : DataW Unit → List Value
  | .slice ds _ => ds.flatMap litV
  | _ => []
/-- A row of texts in a new block, and the variable that holds it. -/
def pushRow (g te : Nat) (d : DataW Unit) (h : Array Obj) : Array Obj :=
  (h.push (.cells (rowV d).toArray te (0, 0))).modify g (laidIn [.slice (some ⟨h.size, 0, none⟩) (rowV d).length (rowV d).length])
/-- A start of one's own making whose variables may hold slices that are not nil. -/
theorem witness_row_ref {H : Type} {enc : TypeId × Value → H} {C : Checked} {os : Os} {f : FuncId} {fn : Func} {s : OpenSpec} {conds : List PathCond} {apart : Bool} {laid : List (String × DataW Unit)} (modest : Bool) (w0 : World) (args : Array Value) (hos : w0.os = os)
    (hv : (w0.forCall (fun _ _ => 0) ⟨#[], args, []⟩).variablesRefB C.prog = true)
    (hr : ((w0.forCall (fun _ _ => 0) ⟨#[], args, []⟩).heap.toList.drop C.prog.globals.size).take ((begin C.prog (fun _ _ => 0) default).world.heap.size - C.prog.globals.size) =
      (begin C.prog (fun _ _ => 0) default).world.heap.toList.drop C.prog.globals.size)
    (hok : Input.okWideB C.prog (w0.forCall (fun _ _ => 0) ⟨#[], args, []⟩) f ⟨#[], args, []⟩ = true)
    (hrow : s.preRow enc C.prog fn conds apart laid (w0.forCall (fun _ _ => 0) ⟨#[], args, []⟩).memory args) :
    ∃ (w : World) (tape : Tape) (i : Input), w.os = os ∧ (w.forCall tape i).Shaped C.prog ∧ i.vars = [] ∧ Input.okWide C.prog (w.forCall tape i) .any w.heap.size f i ∧
      s.preRow enc C.prog fn conds apart laid (w.forCall tape i).memory i.args ∧ ({ modest := modest } : Assume).holds C.prog (lone (Frame.enter C.prog f i.args .normal) [] (w.forCall tape i)) := by
  obtain ⟨w, tape, i, h1, h2, h3, h4, h5, h6, _⟩ := OpenSpec.witness_stopped_atRef (enc := enc) (C := C) (fn := fn) (s := s) (conds := conds) (apart := apart) (laid := laid) modest w0 args hos hv hr hok hrow (fun _ _ _ => 0)
  exact ⟨w, tape, i, h1, h2, h3, h4, h5, h6⟩
end Go.Proofs.YtabhpbkkjijfjaaGreatDoor
