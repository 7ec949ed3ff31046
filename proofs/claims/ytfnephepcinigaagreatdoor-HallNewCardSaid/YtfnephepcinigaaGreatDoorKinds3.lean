/-
  A request as an argument of a law.
-/
import Derived.Test.YtfnephepcinigaaGreatDoorKinds
namespace Go.Proofs.YtfnephepcinigaaGreatDoor
set_option maxRecDepth 100000
open Go.RowKit Go.ChangeShapes Go.WideShapes

/-- A request: its plain fields. -/
structure ReqD where
  verb : Int
  name : ByteArray
  other : ByteArray
  b : Int
  l : Int
  n : Int
def ReqD.cells (q : ReqD) (cv : Value) : List Value := [.int .i64 q.verb, .string q.name, .string q.other, .int .i64 q.b, .int .i64 q.l, .int .i64 q.n, cv]
def ReqD.Good (q : ReqD) : Prop := I64 q.verb ∧ q.name.size ≤ 140737488351232 ∧ q.other.size ≤ 140737488351232 ∧ I64 q.b ∧ I64 q.l ∧ I64 q.n
def Is_request (w : World) (v : Value) : Prop := ∃ (q : ReqD) (cv : Value) (zs : List (Int × Int)), v = .agg (q.cells cv).toArray ∧ q.Good ∧ IsSl w 2 16 cv zs.length (zs.flatMap encCell) ∧ ∀ z ∈ zs, GoodCell z
def RCellR (w : World) (z : Int × Int) (cs : List Value) : Prop := RTwo w (z.1, z.2, ()) cs
theorem o_request : Opens Tryz.prog 35 7 (RCons 1 RInt (RCons 1 RStr (RCons 1 RStr (RCons 2 RTwo (RCons 1 RInt (RCons 1 (RSlice 2 16 RCellR) RNil)))))) :=
  opens_struct Tryz.underlying35 (by kernel_rfl) (opensFields_cons rfl o_int (opensFields_cons rfl o_string (opensFields_cons rfl o_string (opensFields_cons rfl o_rule (opensFields_cons rfl o_int (opensFields_cons rfl (opens_slice Tryz.underlying33 (by kernel_rfl) (by kernel_rfl) (by omega) o_cell) opensFields_nil))))))
theorem rreq_iff {w : World} {z : Int × ByteArray × ByteArray × (Int × Int × Unit) × Int × List (Int × Int) × Unit} {cs : List Value}
    (h : RCons 1 RInt (RCons 1 RStr (RCons 1 RStr (RCons 2 RTwo (RCons 1 RInt (RCons 1 (RSlice 2 16 RCellR) RNil))))) w z cs) :
    ∃ (q : ReqD) (cv : Value) (zs : List (Int × Int)), cs = q.cells cv ∧ q.Good ∧ IsSl w 2 16 cv zs.length (zs.flatMap encCell) ∧ ∀ z ∈ zs, GoodCell z := by
  obtain ⟨⟨h1, g1⟩, ⟨h2, g2⟩, ⟨h3, g3⟩, h4, ⟨h5, g5⟩, h6, h7⟩ := h
  obtain ⟨e4, g4, g4'⟩ := rtwo_iff h4
  have hnil : RNil w z.2.2.2.2.2.2 _ := h7
  match cs, h1, h2, h3, e4, h5, h6, h7 with
  | [a0, a1, a2, a3, a4, a5, a6], h1, h2, h3, e4, h5, h6, h7 =>
    simp at h1 h2 h3 e4 h5
    obtain ⟨e3, e4⟩ := e4
    subst h1 h2 h3 e3 e4 h5
    have h6' : RSlice 2 16 RCellR w z.2.2.2.2.2.1 [a6] := h6
    obtain ⟨hs, hg⟩ := isSl_of (k := 2) (enc := encCell) (Good := GoodCell) (by omega) encCell_len (fun w z c hc => ⟨(rtwo_iff (z := (z.1, z.2, ())) hc).1, (rtwo_iff (z := (z.1, z.2, ())) hc).2⟩) h6'
    exact ⟨⟨z.1, z.2.1, z.2.2.1, z.2.2.2.1.1, z.2.2.2.1.2.1, z.2.2.2.2.1⟩, a6, z.2.2.2.2.2.1, rfl, ⟨g1, g2, g3, g4, g4', g5⟩, hs, hg⟩
theorem open_request {H : Type} {enc : TypeId × Value → H} {w : World} {v : Value} {d : DataW H} {ps : List MemPlace} {r : Reach} {b0 : Nat}
    (hv : Value.okWide Tryz.prog w r b0 35 v) (h : DataW.Trod enc Tryz.prog w 0 (fun _ => true) true 35 v d ps) (hw : ∀ n ∈ d.weights Tryz.prog 35, n ≤ reachBytes) : Is_request w v := by
  obtain ⟨cs, rfl, hsz⟩ := okWide_struct Tryz.underlying35 hv
  obtain ⟨z, hz⟩ := opens_value o_request h hw
  obtain ⟨q, cv, zs, e, hg, hs, hz⟩ := rreq_iff hz
  exact ⟨q, cv, zs, by congr 1; apply Array.toList_inj.1; simpa [Value.cells] using e, hg, hs, hz⟩
end Go.Proofs.YtfnephepcinigaaGreatDoor
