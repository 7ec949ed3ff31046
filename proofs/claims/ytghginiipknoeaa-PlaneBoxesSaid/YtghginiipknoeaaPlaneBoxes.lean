/-
  For all lists of cells, plane.Bounds answers what the document's Bounds answers; no condition.
-/
import Derived.Test.YtghginiipknoeaaCells
import Derived.Test.YtghginiipknoeaaRefBoxes
namespace Go.Proofs.Ytghginiipknoeaa
open Go.RowKit

theorem bounds_one (b : Nat) (w : World) (hb : w.heap[b]? = some (.cells #[.int .i64 1, .int .i64 0] 43 (0, 0))) :
    Calls Try.prog 21 #[.slice (some ⟨b, 0, none⟩) 1 1] w (Boxed w [(1, 0)]) := by
  refine bounds_any [(1, 0)] (some ⟨b, 0, none⟩) 1 w ⟨rfl, Nat.le_refl _, by simp [maxLen], (fun h => by cases h), by simp, fun _ => ⟨b, 0, rfl, fun j u hu => ?_⟩⟩
  rw [Nat.zero_add, Joins.cell_of_block hb]; simpa [encCell] using hu

set_option maxRecDepth 100000 in
set_option maxHeartbeats 1000000 in
theorem law_boxes (zs : List (Int × Int)) (a : Option Addr) (cap : Nat) (w : World) (hs : Sl w 2 16 a zs.length cap (zs.flatMap encCell)) :
    Calls Try.prog 6 #[.slice a zs.length cap] w fun e w' => e = .returned (.bool true) ∧ Below w.heap.size w w' := by
  have hwide := hs.wide
  go_enter Try.func6, Try.ntmps6
  go_wp2_with fail
  refine (cells_any zs a cap _ (hs.below (by omega) ((Below.refl _ _)))).mono ?_
  rintro e w1 ⟨v1, rfl, hb1, ho1⟩
  obtain ⟨a1, c1, rfl⟩ := own_form ho1
  go_wp2_with fail
  obtain ⟨⟨x0, y0, x1, y1⟩, hB⟩ : ∃ B, B = boxF zs := ⟨_, rfl⟩
  have box : ∀ {w e w'}, Boxed w zs e w' → e = .returned (.tuple #[.agg #[.int .i64 x0, .int .i64 y0, .int .i64 x1, .int .i64 y1], .bool (decide (0 < zs.length))]) ∧ Below w.heap.size w w' := fun h => by unfold Boxed at h; rw [← hB] at h; exact h
  clear hB
  have BOX := @box
  refine (bounds_any zs a1 c1 _ (sl_own_up ho1 (by omega) hwide (Below.refl _ _))).mono ?_
  intro e w2 hbx
  obtain ⟨rfl, hb2⟩ := box hbx
  clear hbx
  go_wp2_with fail
  have hB2 : Below w.heap.size w w2 := hb1.trans (hb2.mono hb1.size)
  refine (refBounds_any zs a cap _ (hs.below (by omega) (hB2.alloc hB2.size _))).mono ?_
  intro e w3 hbx
  obtain ⟨rfl, hb3⟩ := box hbx
  clear hbx
  have hz3 := hb3.size
  simp only [World.size_alloc] at hz3
  have k2 : w3.heap[w2.heap.size]? = some (.cells #[.int .i64 x0, .int .i64 y0, .int .i64 x1, .int .i64 y1] 38 (0, 0)) := by
    rw [hb3.block _ (by simp)]; exact blk_last w2 _ rfl
  have hB3 : Below w.heap.size w w3 := (hB2.alloc hB2.size _).trans (hb3.mono (by simp; have := hB2.size; omega))
  go_wp2_with fail
  refine (bounds_one (w3.heap.size + 1) _ (blk_last _ _ (by simp))).mono ?_
  intro e w4 hbx
  obtain ⟨rfl, hb4⟩ := hbx
  obtain ⟨⟨p0, p1, p2, p3⟩, hP⟩ : ∃ B, B = boxF [(1, 0)] := ⟨_, rfl⟩
  rw [← hP]
  clear hP
  have hz4 := hb4.size
  simp only [World.size_alloc] at hz4
  have b34 : Below w3.heap.size w3 w4 := (((Below.refl _ _).alloc (Nat.le_refl _) _).alloc (by simp) _).trans (hb4.mono (by simp; omega))
  have k2' : w4.heap[w2.heap.size]? = some (.cells #[.int .i64 x0, .int .i64 y0, .int .i64 x1, .int .i64 y1] 38 (0, 0)) := by
    rw [b34.block _ (by omega)]; exact k2
  have k3 : w4.heap[w3.heap.size]? = some (.cells #[.int .i64 x0, .int .i64 y0, .int .i64 x1, .int .i64 y1] 38 (0, 0)) := by
    rw [hb4.block _ (by simp; omega)]; exact blk_alloc (blk_last w3 _ rfl) _
  have c0 : w4.cell? ⟨w2.heap.size, 0, none⟩ = some (.int .i64 x0) := Joins.cell_of_block k2' 0
  have c1 : w4.cell? ⟨w2.heap.size, 1, none⟩ = some (.int .i64 y0) := Joins.cell_of_block k2' 1
  have c2 : w4.cell? ⟨w2.heap.size, 2, none⟩ = some (.int .i64 x1) := Joins.cell_of_block k2' 2
  have c3 : w4.cell? ⟨w2.heap.size, 3, none⟩ = some (.int .i64 y1) := Joins.cell_of_block k2' 3
  have d0 : w4.cell? ⟨w3.heap.size, 0, none⟩ = some (.int .i64 x0) := Joins.cell_of_block k3 0
  have d1 : w4.cell? ⟨w3.heap.size, 1, none⟩ = some (.int .i64 y0) := Joins.cell_of_block k3 1
  have d2 : w4.cell? ⟨w3.heap.size, 2, none⟩ = some (.int .i64 x1) := Joins.cell_of_block k3 2
  have d3 : w4.cell? ⟨w3.heap.size, 3, none⟩ = some (.int .i64 y1) := Joins.cell_of_block k3 3
  have l2 : w2.heap.size < w4.heap.size := by omega
  have l3 : w3.heap.size < w4.heap.size := by omega
  have hB4 : Below w.heap.size w w4 := hB3.trans (b34.mono hB3.size)
  simp only [encBox]
  go_wp2_with fail
  go_ret
  exact ⟨rfl, hB4.alloc hB4.size _⟩
section
open Go.ChangeShapes Go.WideShapes Go.ChangeAt
set_option maxRecDepth 100000 in
theorem lifted_planeBoxes (os : Os) (started : os.Started) (H : Type) (enc : TypeId × Value → H)
    (walk : ∀ (W : World) (v0 : Value), Is_cells W v0 → Calls Try.prog 6 #[v0] W fun e w' => e = .returned (.bool true) ∧ Below W.heap.size W w') :
    ReturnsInHanded {} Try.checked os 6 .any (Rows.planeBoxesSpec.pre6 enc Try.prog Try.f6 Rows.planeBoxesRow.domain false) (Rows.planeBoxesSpec.post enc Try.prog Try.f6 false true false false) := by
  refine returnsInHanded_of_change_sized (C := Try.checked) own started (by kernel_rfl) Try.func6
    (ChangeSpec.witness6 (enc := enc) (C := Try.checked) false ⟨#[], #[.slice none 0 0], []⟩ 8 (by kernel_rfl) (by kernel_rfl) (by kernel_rfl) (by kernel_rfl)) ?_
  intro W base args ds gs before hval0 hW hcnd hsz0 _
  have hval : ∀ (j : Nat) t v, Try.f6.params[j]? = some t → args[j]? = some v → Value.okWide Try.prog W .any base t v := hval0
  have hW' := hW
  obtain ⟨p, q, hA0, hV, rfl, hfz, hnd⟩ := hW
  have hA : DataW.TrodAll enc Try.prog W 0 (fun _ => true) true Try.f6.params.toList args.toList ds p := hA0
  rw [Try.params6] at hA hval
  obtain ⟨rfl, rfl⟩ := trodVars_none hV
  have hB := hA
  obtain ⟨v0, vs0, d0, ds0, p0, q0, hargs, rfl, rfl, h0, r0⟩ := trodAll_cons hA
  obtain ⟨rfl, rfl, rfl⟩ := trodAll_nil r0
  obtain rfl : args = #[v0] := by cases args; simp_all
  have hsz : (DataW.weightsEach Try.prog [36] [d0]).all (· ≤ reachBytes) = true := hsz0
  have i0 := open_cells (hval 0 36 v0 rfl rfl) h0 (weights_le hsz 0 rfl rfl)
  refine (walk W v0 i0).mono fun e W' ⟨he, bel⟩ => ?_
  subst he
  exact ⟨_, rfl, _, _, _, [], _, [], hW', trodAll_mk1 (shut_bool Try.underlying4 _), trodAll_below laidOut (by kernel_rfl) hB bel, rfl, bel.frame _, fun h => by cases h⟩

theorem over_planeBoxes (walk : ∀ (W : World) (v0 : Value), Is_cells W v0 → Calls Try.prog 6 #[v0] W fun e w' => e = .returned (.bool true) ∧ Below W.heap.size W w') :
    Rows.planeBoxesRow.holds Try.pinned (OpenSpec.ofChange Rows.planeBoxesSpec) :=
  OpenClaim.holds_of_wide 6 Try.f6 rfl rfl rfl rfl rfl rfl rfl ⟨rfl, rfl, rfl, rfl, rfl⟩ rfl rfl rfl rfl rfl (by kernel_rfl) Try.func6 (by kernel_rfl)
    (of_decide_eq_true (by kernel_rfl)) (by unfold Func.isWrapper; first | (rw [if_pos (by decide +kernel)]; kernel_rfl) | (rw [if_neg (by decide +kernel)]; exact ⟨rfl, rfl⟩))
    (fun os started H enc _ => lifted_planeBoxes os started H enc walk)
end
theorem planeBoxes_proved : Rows.PlaneBoxesSaid := over_planeBoxes fun W _ ⟨zs, ⟨a, cap, e1, hs⟩, _⟩ => by
  subst e1
  exact law_boxes zs a cap W hs
end Go.Proofs.Ytghginiipknoeaa
