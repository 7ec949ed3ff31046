/-
  For all lists of cells and moves, plane.Shift answers what the document's Shift answers; no condition.
-/
import Derived.Test.YtffgpjkkgndkiaaShiftRef
namespace Go.Proofs.Ytffgpjkkgndkiaa
set_option maxRecDepth 100000
open Go.RowKit

theorem sl_one {w : World} {b : Nat} {x y : Int} (hb : w.heap[b]? = some (.cells #[.int .i64 x, .int .i64 y] 72 (0, 0))) : Sl w 2 16 (some ⟨b, 0, none⟩) [(x, y)].length 1 ([(x, y)].flatMap encCell) :=
  ⟨rfl, Nat.le_refl _, by simp [maxLen], (fun h => by cases h), by simp, fun _ => ⟨b, 0, rfl, fun j u hu => by rw [Nat.zero_add, Joins.cell_of_block hb]; simpa [encCell] using hu⟩⟩
theorem shifted_of {w w' : World} {zs : List (Int × Int)} {dx dy : Int} {e : Ending} {r : List (Int × Int)} {er : Int} (hr : (r, er) = shiftF zs dx dy) (h : Shifted w zs dx dy e w') :
    ∃ a c, e = .returned (.tuple #[.slice a r.length c, .int .i64 er]) ∧ Below w.heap.size w w' ∧ Tight w.heap.size w' (.slice a r.length c) r := by
  obtain ⟨v, he, hb, ht⟩ := h
  rw [← hr] at he ht
  obtain ⟨a, c, rfl, _, _⟩ := ht.form
  exact ⟨a, c, he, hb, ht⟩
theorem shiftF_length (zs : List (Int × Int)) (dx dy : Int) : (shiftF zs dx dy).1.length ≤ 4096 := by
  have := tidyF_length zs
  unfold shiftF
  split
  · simp
  · split
    · simp
    · split
      · simp
      · simpa using this
set_option maxHeartbeats 2000000 in
theorem law_shifts (zs : List (Int × Int)) (dx dy : Int) (a : Option Addr) (cap : Nat) (w : World) (hs : Sl w 2 16 a zs.length cap (zs.flatMap encCell)) :
    Calls Try.prog 7 #[.slice a zs.length cap, .int .i64 dx, .int .i64 dy] w fun e w' => e = .returned (.bool true) ∧ Below w.heap.size w w' := by
  have hwide := hs.wide
  obtain ⟨⟨r, er⟩, hR⟩ : ∃ R, R = shiftF zs dx dy := ⟨_, rfl⟩
  have hrl : r.length ≤ 4096 := by have := shiftF_length zs dx dy; rw [← hR] at this; exact this
  have HR := Lib.hid hR
  clear hR
  go_enter Try.func7, Try.ntmps7
  go_wp2_with fail
  refine (cells_any zs a cap _ hs).mono ?_
  rintro e w1 ⟨v1, rfl, hb1, ho1⟩
  obtain ⟨a1, c1, rfl⟩ := own_form ho1
  have s1 := Lib.hid (sl_own_up (bytes := 16) ho1 (by omega) hwide (Below.refl _ _))
  clear ho1
  go_wp2_with fail
  refine (shift_any zs dx dy a1 c1 _ s1.out).mono ?_
  intro e w2 h2
  obtain ⟨a2, c2, rfl, hb2, ht2⟩ := shifted_of HR.out h2
  have hB2 := hb1.trans (hb2.mono hb1.size)
  have T2 := Lib.hid ht2
  clear h2 ht2
  go_wp2_with fail
  refine (refShift_any zs dx dy a cap _ (hs.below (by omega) hB2)).mono ?_
  intro e w3 h3
  obtain ⟨a3, c3, rfl, hb3, ht3⟩ := shifted_of HR.out h3
  have hB3 := hB2.trans (hb3.mono hB2.size)
  have T3 := Lib.hid ht3
  clear h3 ht3
  go_wp2_with fail
  refine (shift_any [(1, 0)] 1 1 _ _ _ (sl_one (blk_last w3 _ rfl))).mono ?_
  intro e w4 h4
  obtain ⟨a4, c4, rfl, hb4, ht4⟩ := shifted_of (r := [(2, 1)]) (er := 0) (by decide) h4
  have hB4 := (hB3.alloc hB3.size _).trans (hb4.mono (by have := hB3.size; simp; omega))
  have b34 := ((Below.refl w3.heap.size w3).alloc (Nat.le_refl _) _).trans (hb4.mono (by simp))
  have S2 := Lib.hid (((T2.out.below hb3).below b34).sl (by omega))
  have S3 := Lib.hid ((T3.out.below b34).sl (by omega))
  have hz := hB4.size
  clear h4 ht4
  go_wp2_with fail
  refine (same_any r _ _ _ _ _ S2.out S3.out).mono ?_
  rintro e w5 ⟨rfl, hb5⟩
  go_wp2_with fail
  go_ret
  exact ⟨by simp, hB4.trans (hb5.mono hz)⟩
section
open Go.ChangeShapes Go.WideShapes Go.ChangeAt
set_option maxRecDepth 100000 in
theorem lifted_planeShifts (os : Os) (started : os.Started) (H : Type) (enc : TypeId × Value → H)
    (walk : ∀ (W : World) (v0 : Value) (v1 : Value) (v2 : Value), Is_cells W v0 → Is_int W v1 → Is_int W v2 → Calls Try.prog 7 #[v0, v1, v2] W fun e w' => e = .returned (.bool true) ∧ Below W.heap.size W w') :
    ReturnsInHanded {} Try.checked os 7 .any (Rows.planeShiftsSpec.pre6 enc Try.prog Try.f7 Rows.planeShiftsRow.domain false) (Rows.planeShiftsSpec.post enc Try.prog Try.f7 false true false false) := by
  refine returnsInHanded_of_change_sized (C := Try.checked) own started (by kernel_rfl) Try.func7
    (ChangeSpec.witness6 (enc := enc) (C := Try.checked) false ⟨#[], #[.slice none 0 0, .int .i64 0, .int .i64 0], []⟩ 8 (by kernel_rfl) (by kernel_rfl) (by kernel_rfl) (by kernel_rfl)) ?_
  intro W base args ds gs before hval0 hW hcnd hsz0 _
  have hval : ∀ (j : Nat) t v, Try.f7.params[j]? = some t → args[j]? = some v → Value.okWide Try.prog W .any base t v := hval0
  have hW' := hW
  obtain ⟨p, q, hA0, hV, rfl, hfz, hnd⟩ := hW
  have hA : DataW.TrodAll enc Try.prog W 0 (fun _ => true) true Try.f7.params.toList args.toList ds p := hA0
  rw [Try.params7] at hA hval
  obtain ⟨rfl, rfl⟩ := trodVars_none hV
  have hB := hA
  obtain ⟨v0, vs0, d0, ds0, p0, q0, hargs, rfl, rfl, h0, r0⟩ := trodAll_cons hA
  obtain ⟨v1, vs1, d1, ds1, p1, q1, rfl, rfl, rfl, h1, r1⟩ := trodAll_cons r0
  obtain ⟨v2, vs2, d2, ds2, p2, q2, rfl, rfl, rfl, h2, r2⟩ := trodAll_cons r1
  obtain ⟨rfl, rfl, rfl⟩ := trodAll_nil r2
  obtain rfl : args = #[v0, v1, v2] := by cases args; simp_all
  have hsz : (DataW.weightsEach Try.prog [22, 3, 3] [d0, d1, d2]).all (· ≤ reachBytes) = true := hsz0
  have i0 := open_cells (hval 0 22 v0 rfl rfl) h0 (weights_le hsz 0 rfl rfl)
  have i1 := open_int (hval 1 3 v1 rfl rfl) h1 (weights_le hsz 1 rfl rfl)
  have i2 := open_int (hval 2 3 v2 rfl rfl) h2 (weights_le hsz 2 rfl rfl)
  refine (walk W v0 v1 v2 i0 i1 i2).mono fun e W' ⟨he, bel⟩ => ?_
  subst he
  exact ⟨_, rfl, _, _, _, [], _, [], hW', trodAll_mk1 (shut_bool Try.underlying4 _), trodAll_below laidOut (by kernel_rfl) hB bel, rfl, bel.frame _, fun h => by cases h⟩

theorem over_planeShifts (walk : ∀ (W : World) (v0 : Value) (v1 : Value) (v2 : Value), Is_cells W v0 → Is_int W v1 → Is_int W v2 → Calls Try.prog 7 #[v0, v1, v2] W fun e w' => e = .returned (.bool true) ∧ Below W.heap.size W w') :
    Rows.planeShiftsRow.holds Try.pinned (OpenSpec.ofChange Rows.planeShiftsSpec) :=
  OpenClaim.holds_of_wide 7 Try.f7 rfl rfl rfl rfl rfl rfl rfl ⟨rfl, rfl, rfl, rfl, rfl⟩ rfl rfl rfl rfl rfl (by kernel_rfl) Try.func7 (by kernel_rfl)
    (of_decide_eq_true (by kernel_rfl)) (by unfold Func.isWrapper; first | (rw [if_pos (by decide +kernel)]; kernel_rfl) | (rw [if_neg (by decide +kernel)]; exact ⟨rfl, rfl⟩))
    (fun os started H enc _ => lifted_planeShifts os started H enc walk)
end
theorem planeShifts_proved : Rows.PlaneShiftsSaid := over_planeShifts fun W _ _ _ ⟨zs, ⟨a, cap, e1, hs⟩, _⟩ ⟨dx, e2, _⟩ ⟨dy, e3, _⟩ => by
  subst e1; subst e2; subst e3
  exact law_shifts zs dx dy a cap W hs
end Go.Proofs.Ytffgpjkkgndkiaa
