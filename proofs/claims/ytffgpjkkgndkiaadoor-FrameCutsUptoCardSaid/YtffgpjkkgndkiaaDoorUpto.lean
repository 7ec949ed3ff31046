/-
  The second form of a statement: what its bound on the bulk of the arguments gives.
-/
import Derived.Test.YtffgpjkkgndkiaaDoorKinds
import Derived.Deep.CondSized
namespace Go.Proofs.YtffgpjkkgndkiaaDoor
set_option maxRecDepth 100000
open Go.RowKit Go.ChangeShapes Go.WideShapes

theorem bulk_one {H : Type} (d : DataW H) : 1 ≤ Rows.uptoBulk d := by
  cases d with
  | lit l => cases l <;> simp [Rows.uptoBulk]
  | nil => simp [Rows.uptoBulk]
  | ptr d => simp [Rows.uptoBulk]
  | slice elems spare => simp [Rows.uptoBulk]
  | agg parts => simp [Rows.uptoBulk]
  | iface t d => simp [Rows.uptoBulk]
  | map entries => simp [Rows.uptoBulk]
  | held h => simp [Rows.uptoBulk]
theorem bulk_part {H : Type} {d : DataW H} {l : List (DataW H)} (h : d ∈ l) : Rows.uptoBulk d ≤ Rows.uptoBulkAll l := by
  induction l with
  | nil => cases h
  | cons x r ih =>
    simp only [Rows.uptoBulkAll]
    cases List.mem_cons.1 h with
    | inl e => subst e; omega
    | inr e => have := ih e; omega
def IsU_string (_ : World) (v : Value) : Prop := ∃ s : ByteArray, v = .string s ∧ s.size ≤ 1048576
theorem openU_string {H : Type} {enc : TypeId × Value → H} {w : World} {v : Value} {d : DataW H} {ps : List MemPlace} {r : Reach} {b0 : Nat}
    (hv : Value.okWide Tryd.prog w r b0 9 v) (h : DataW.Trod enc Tryd.prog w 0 (fun _ => true) true 9 v d ps) (_ : ∀ n ∈ d.weights Tryd.prog 9, n ≤ reachBytes) (hb : Rows.uptoBulk d ≤ 1048576) : IsU_string w v := by
  obtain ⟨s, rfl, rfl, rfl, hs⟩ := Go.ChangeMaps.open_string Tryd.underlying9 hv h
  refine ⟨s, rfl, ?_⟩
  have : s.data.toList.length = s.size := by simp
  simp only [Rows.uptoBulk] at hb
  omega
end Go.Proofs.YtffgpjkkgndkiaaDoor
