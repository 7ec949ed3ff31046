/-
  The rule and the three cells that some laws begin with.
-/
import Derived.Test.YtdmamecfmfhlmaaDoorPuts
namespace Go.Proofs.YtdmamecfmfhlmaaDoor
set_option maxRecDepth 100000
open Go.RowKit

def rodL : List (Int × Int) := [(0, 0), (1, 0), (2, 0)]
theorem life_any (w : World) : Calls Tryd.prog 15 #[] w fun e w' => e = .returned (.agg #[.int .i64 8, .int .i64 12]) ∧ Below w.heap.size w w' := by
  go_enter Tryd.func15, Tryd.ntmps15
  go_wp2_with fail
  refine bodyPost_ret (v := .agg #[.int .i64 8, .int .i64 12]) (by
    rw [results_cell_row (g := w.heap.size) (t := 33) (cs := #[.int .i64 8, .int .i64 12]) (fr := (0, 0)) (d := _) rfl _ _ rfl (blk_last w _ rfl) rfl rfl rfl]) rfl ⟨rfl, (Below.refl _ _).alloc (Nat.le_refl _) _⟩
theorem rod_any (w : World) : Calls Tryd.prog 14 #[] w fun e w' => ∃ a c, e = .returned (.slice a 3 c) ∧ Below w.heap.size w w' ∧ Sl w' 2 16 a 3 c (rodL.flatMap encCell) := by
  go_enter Tryd.func14, Tryd.ntmps14
  go_wp2_with fail
  go_ret
  refine ⟨_, _, rfl, (Below.refl _ _).alloc (Nat.le_refl _) _, rfl, by decide, by decide, (fun h => by cases h), by decide, fun _ => ⟨w.heap.size, 0, rfl, fun j u hu => ?_⟩⟩
  rw [Nat.zero_add, Joins.cell_of_block (blk_last w _ rfl)]
  simpa [rodL, encCell] using hu
end Go.Proofs.YtdmamecfmfhlmaaDoor
