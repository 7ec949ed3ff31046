/-
  The rule and the three cells that the laws of Next and Run begin with.
-/
import Derived.Test.YtffgpjkkgndkiaaNexts
namespace Go.Proofs.Ytffgpjkkgndkiaa
set_option maxRecDepth 100000
open Go.RowKit

def rodL : List (Int × Int) := [(0, 0), (1, 0), (2, 0)]
theorem life_any (w : World) : Calls Try.prog 39 #[] w fun e w' => e = .returned (.agg #[.int .i64 8, .int .i64 12]) ∧ Below w.heap.size w w' := by
  go_enter Try.func39, Try.ntmps39
  go_wp2_with fail
  refine bodyPost_ret (v := .agg #[.int .i64 8, .int .i64 12]) (by
    rw [results_cell_row (g := w.heap.size) (t := 24) (cs := #[.int .i64 8, .int .i64 12]) (fr := (0, 0)) (d := _) rfl _ _ rfl (blk_last w _ rfl) rfl rfl rfl]) rfl ⟨rfl, (Below.refl _ _).alloc (Nat.le_refl _) _⟩
theorem rod_any (w : World) : Calls Try.prog 40 #[] w fun e w' => ∃ a c, e = .returned (.slice a 3 c) ∧ Below w.heap.size w w' ∧ Sl w' 2 16 a 3 c (rodL.flatMap encCell) := by
  go_enter Try.func40, Try.ntmps40
  go_wp2_with fail
  go_ret
  refine ⟨_, _, rfl, (Below.refl _ _).alloc (Nat.le_refl _) _, rfl, by decide, by decide, (fun h => by cases h), by decide, fun _ => ⟨w.heap.size, 0, rfl, fun j u hu => ?_⟩⟩
  rw [Nat.zero_add, Joins.cell_of_block (blk_last w _ rfl)]
  simpa [rodL, encCell] using hu
theorem nexted_of {w w' : World} {b l : Int} {zs : List (Int × Int)} {e : Ending} {r : List (Int × Int)} {er : Int} (hr : (r, er) = nextF b l zs) (h : Nexted w b l zs e w') :
    ∃ a c, e = .returned (.tuple #[.slice a r.length c, .int .i64 er]) ∧ Below w.heap.size w w' ∧ Tight w.heap.size w' (.slice a r.length c) r := by
  obtain ⟨v, he, hb, ht⟩ := h
  rw [← hr] at he ht
  obtain ⟨a, c, rfl, _, _⟩ := ht.form
  exact ⟨a, c, he, hb, ht⟩
theorem nextF_rod : nextF 8 12 rodL = ([(1, -1), (1, 0), (1, 1)], 0) := by kernel_rfl
end Go.Proofs.Ytffgpjkkgndkiaa
