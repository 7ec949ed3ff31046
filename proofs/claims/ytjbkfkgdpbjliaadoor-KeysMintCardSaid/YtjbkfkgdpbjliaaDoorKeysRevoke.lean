/-
  For all tables and names, keys.Revoke answers what the document's Revoke answers; no condition.
-/
import Derived.Test.YtjbkfkgdpbjliaaDoorKinds
namespace Go.Proofs.YtjbkfkgdpbjliaaDoor
set_option maxRecDepth 100000
open Go.RowKit

theorem infoKey : (Tryd.prog.info? 36).map (fun i => (i.zero, i.size, i.bytes)) = some (some (.agg #[.string ⟨#[]⟩, .string ⟨#[]⟩, .int .i64 0]), 3, 40) := by kernel_rfl

def keepK (name : ByteArray) (ks : List KeyD) : List KeyD := ks.filter fun k => !(k.name.toList == name.toList)
theorem keep_yes {name : ByteArray} {ks : List KeyD} {k : Nat} {kd : KeyD} (h : ks[k]? = some kd) (hn : (!kd.name.toList == name.toList) = true) : keepK name (ks.take (k + 1)) = keepK name (ks.take k) ++ [kd] := by
  rw [List.take_add_one, h]; simp [keepK, List.filter_append, hn]
theorem keep_no {name : ByteArray} {ks : List KeyD} {k : Nat} {kd : KeyD} (h : ks[k]? = some kd) (hn : (!kd.name.toList == name.toList) = false) : keepK name (ks.take (k + 1)) = keepK name (ks.take k) := by
  rw [List.take_add_one, h]; simp [keepK, List.filter_append, hn]
theorem keep_le (name : ByteArray) (ks : List KeyD) : (keepK name ks).length ≤ ks.length := List.length_filter_le _ _
theorem keep_take_le (name : ByteArray) (ks : List KeyD) (k : Nat) : (keepK name (ks.take k)).length ≤ k := Nat.le_trans (List.length_filter_le _ _) (List.length_take_le _ _)

/-- The three blocks of the call's own, and what it has kept so far. -/
structure RevInv (w : World) (s : Int) (arg : Value) (kept : List KeyD) (v' : Value) (wr : World) : Prop where
  below : Below w.heap.size w wr
  b0 : wr.heap[w.heap.size]? = some (.cells #[.int .i64 s, arg] 24 (0, 0))
  b1 : wr.heap[w.heap.size + 1]? = some (.cells #[.int .i64 0, .slice none 0 0] 24 (0, 0))
  b2 : wr.heap[w.heap.size + 1 + 1]? = some (.cells #[.int .i64 s, v'] 24 (0, 0))
  own : wr.ownsRow (w.heap.size + 3) 36 3 v' kept.length (kept.flatMap encKey)

/-- What a Revoke leaves: a table with what is kept, and how many are gone. -/
def Revoked (w : World) (s : Int) (name : ByteArray) (ks : List KeyD) (e : Ending) (w' : World) : Prop :=
  ∃ v', e = .returned (.tuple #[.agg #[.int .i64 s, v'], .int .i64 (ks.length - (keepK name ks).length)]) ∧ Below w.heap.size w w' ∧
      w'.ownsRow w.heap.size 36 3 v' (keepK name ks).length ((keepK name ks).flatMap encKey)

end Go.Proofs.YtjbkfkgdpbjliaaDoor
