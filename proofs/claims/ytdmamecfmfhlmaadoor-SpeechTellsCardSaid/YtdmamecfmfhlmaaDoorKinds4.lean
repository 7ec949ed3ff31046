/-
  An answer as an argument of a law.
-/
import Derived.Test.YtdmamecfmfhlmaaDoorKinds
namespace Go.Proofs.YtdmamecfmfhlmaaDoor
set_option maxRecDepth 100000
open Go.RowKit Go.ChangeShapes Go.WideShapes

/-- An answer: its plain fields. -/
structure AnsD where
  code : Int
  n : Int
  x0 : Int
  y0 : Int
  x1 : Int
  y1 : Int
  b : Int
  l : Int
  key : ByteArray
def AnsD.cells (q : AnsD) (cv : Value) : List Value := [.int .i64 q.code, .int .i64 q.n, .int .i64 q.x0, .int .i64 q.y0, .int .i64 q.x1, .int .i64 q.y1, .int .i64 q.b, .int .i64 q.l, .string q.key, cv]
def AnsD.Good (q : AnsD) : Prop := I64 q.code ∧ I64 q.n ∧ (I64 q.x0 ∧ I64 q.y0 ∧ I64 q.x1 ∧ I64 q.y1) ∧ I64 q.b ∧ I64 q.l ∧ q.key.size ≤ 140737488351232
def Is_answer (w : World) (v : Value) : Prop := ∃ (q : AnsD) (cv : Value) (zs : List (Int × Int)), v = .agg (q.cells cv).toArray ∧ q.Good ∧ IsSl w 2 16 cv zs.length (zs.flatMap encCell) ∧ ∀ z ∈ zs, GoodCell z
def ACellR (w : World) (z : Int × Int) (cs : List Value) : Prop := RTwo w (z.1, z.2, ()) cs
def RFour := RCons 1 RInt (RCons 1 RInt (RCons 1 RInt (RCons 1 RInt RNil)))
theorem rfour_iff {w : World} {z : Int × Int × Int × Int × Unit} {cs : List Value} (h : RFour w z cs) : cs = [.int .i64 z.1, .int .i64 z.2.1, .int .i64 z.2.2.1, .int .i64 z.2.2.2.1] ∧ I64 z.1 ∧ I64 z.2.1 ∧ I64 z.2.2.1 ∧ I64 z.2.2.2.1 := by
  obtain ⟨⟨h1, g1, g1'⟩, ⟨h2, g2, g2'⟩, ⟨h3, g3, g3'⟩, ⟨h4, g4, g4'⟩, h5⟩ := h
  match cs, h1, h2, h3, h4, h5 with
  | [a, b, c, d], h1, h2, h3, h4, h5 =>
    simp at h1 h2 h3 h4
    subst h1 h2 h3 h4
    exact ⟨rfl, ⟨g1, g1'⟩, ⟨g2, g2'⟩, ⟨g3, g3'⟩, ⟨g4, g4'⟩⟩
  | [], h1, _, _, _, _ => simp at h1
  | [a], _, h2, _, _, _ => simp at h2
  | [a, b], _, _, h3, _, _ => simp at h3
  | [a, b, c], _, _, _, h4, _ => simp at h4
  | a :: b :: c :: d :: e :: r, _, _, _, _, h5 => simp [RNil] at h5
theorem o_box : Opens Tryd.prog 41 4 RFour := opens_struct Tryd.underlying41 (by kernel_rfl) (opensFields_cons rfl o_int (opensFields_cons rfl o_int (opensFields_cons rfl o_int (opensFields_cons rfl o_int opensFields_nil))))
theorem o_errno : Opens Tryd.prog 25 1 RInt := opens_int Tryd.underlying25 (by kernel_rfl)
theorem o_answer : Opens Tryd.prog 43 10 (RCons 1 RInt (RCons 1 RInt (RCons 4 RFour (RCons 2 RTwo (RCons 1 RStr (RCons 1 (RSlice 2 16 ACellR) RNil)))))) :=
  opens_struct Tryd.underlying43 (by kernel_rfl) (opensFields_cons rfl o_errno (opensFields_cons rfl o_int (opensFields_cons rfl o_box (opensFields_cons rfl o_rule (opensFields_cons rfl o_string (opensFields_cons rfl (opens_slice Tryd.underlying31 (by kernel_rfl) (by kernel_rfl) (by omega) o_cell) opensFields_nil))))))
theorem rans_iff {w : World} {z : Int × Int × (Int × Int × Int × Int × Unit) × (Int × Int × Unit) × ByteArray × List (Int × Int) × Unit} {cs : List Value}
    (h : RCons 1 RInt (RCons 1 RInt (RCons 4 RFour (RCons 2 RTwo (RCons 1 RStr (RCons 1 (RSlice 2 16 ACellR) RNil))))) w z cs) :
    ∃ (q : AnsD) (cv : Value) (zs : List (Int × Int)), cs = q.cells cv ∧ q.Good ∧ IsSl w 2 16 cv zs.length (zs.flatMap encCell) ∧ ∀ z ∈ zs, GoodCell z := by
  obtain ⟨⟨h1, g1⟩, ⟨h2, g2⟩, h3, h4, ⟨h5, g5⟩, h6, h7⟩ := h
  obtain ⟨e3, g3⟩ := rfour_iff h3
  obtain ⟨e4, g4, g4'⟩ := rtwo_iff h4
  have hnil : _ = [] := (show RNil w z.2.2.2.2.2.2 _ from h7)
  obtain ⟨sa, sc, hse, _⟩ := id h6
  rw [hse] at h6
  have h6' : RSlice 2 16 ACellR w z.2.2.2.2.2.1 [.slice sa z.2.2.2.2.2.1.length sc] := h6
  obtain ⟨hs, hg⟩ := isSl_of (k := 2) (enc := encCell) (Good := GoodCell) (by omega) encCell_len (fun w z c hc => ⟨(rtwo_iff (z := (z.1, z.2, ())) hc).1, (rtwo_iff (z := (z.1, z.2, ())) hc).2⟩) h6'
  refine ⟨⟨z.1, z.2.1, z.2.2.1.1, z.2.2.1.2.1, z.2.2.1.2.2.1, z.2.2.1.2.2.2.1, z.2.2.2.1.1, z.2.2.2.1.2.1, z.2.2.2.2.1⟩, _, z.2.2.2.2.2.1, ?_, ⟨g1, g2, g3, g4, g4', g5⟩, hs, hg⟩
  have t1 := List.take_append_drop 1 cs
  rw [h1] at t1
  have t2 := List.take_append_drop 1 (cs.drop 1)
  rw [h2] at t2
  have t3 := List.take_append_drop 4 ((cs.drop 1).drop 1)
  rw [e3] at t3
  have t4 := List.take_append_drop 2 (((cs.drop 1).drop 1).drop 4)
  rw [e4] at t4
  have t5 := List.take_append_drop 1 ((((cs.drop 1).drop 1).drop 4).drop 2)
  rw [h5] at t5
  have t6 := List.take_append_drop 1 (((((cs.drop 1).drop 1).drop 4).drop 2).drop 1)
  rw [hse, hnil] at t6
  rw [← t1, ← t2, ← t3, ← t4, ← t5, ← t6]
  rfl
theorem open_answer {H : Type} {enc : TypeId × Value → H} {w : World} {v : Value} {d : DataW H} {ps : List MemPlace} {r : Reach} {b0 : Nat}
    (hv : Value.okWide Tryd.prog w r b0 43 v) (h : DataW.Trod enc Tryd.prog w 0 (fun _ => true) true 43 v d ps) (hw : ∀ n ∈ d.weights Tryd.prog 43, n ≤ reachBytes) : Is_answer w v := by
  obtain ⟨cs, rfl, hsz⟩ := okWide_struct Tryd.underlying43 hv
  obtain ⟨z, hz⟩ := opens_value o_answer h hw
  obtain ⟨q, cv, zs, e, hg, hs, hz⟩ := rans_iff hz
  exact ⟨q, cv, zs, by congr 1; apply Array.toList_inj.1; simpa [Value.cells] using e, hg, hs, hz⟩
end Go.Proofs.YtdmamecfmfhlmaaDoor
