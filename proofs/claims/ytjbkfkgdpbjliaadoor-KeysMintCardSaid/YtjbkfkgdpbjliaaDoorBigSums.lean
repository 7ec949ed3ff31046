/-
  Whole numbers: Add of any two.
-/
import Derived.Test.YtjbkfkgdpbjliaaDoorGiveZero
import Derived.Test.YtjbkfkgdpbjliaaDoorBigOps
namespace Go.Proofs.YtjbkfkgdpbjliaaDoor
set_option maxRecDepth 100000
open Go.RowKit

theorem BigI.cells {w : World} {p : Nat} {i : Int} (h : BigI w p i) : ∃ s v, w.cell? ⟨p, 0, none⟩ = some (.bool s) ∧ w.cell? ⟨p, 1, none⟩ = some v ∧ AbsOf w v i.natAbs ∧ sgn s i.natAbs = i ∧ (s = true → 0 < i.natAbs) := by
  by_cases hi : i < 0
  · obtain ⟨v, hb, ha⟩ := h.neg hi
    exact ⟨true, v, Joins.cell_of_block hb 0, Joins.cell_of_block hb 1, ha, by simp [sgn]; omega, fun _ => by omega⟩
  · obtain ⟨v, hb, ha⟩ := h.pos (by omega)
    exact ⟨false, v, Joins.cell_of_block hb 0, Joins.cell_of_block hb 1, ha, by simp [sgn]; omega, fun h => by cases h⟩
set_option maxHeartbeats 4000000 in
theorem bigAddI_any (p q r : Nat) (x y : Int) (w : World) (hp : BigBlk w p) (hq : BigI w q x) (hr : BigI w r y) (hxy : x.natAbs + y.natAbs < bigTop) :
    Calls Tryd.prog 19 #[.pointer (some ⟨p, 0, none⟩), .pointer (some ⟨q, 0, none⟩), .pointer (some ⟨r, 0, none⟩)] w fun e w' => e = .returned (.pointer (some ⟨p, 0, none⟩)) ∧ BigI w' p (x + y) ∧ Keeps (fun i => i = p) w w' := by
  obtain ⟨s, v1, q0, q1, hA1, hs, hs0⟩ := hq.cells
  obtain ⟨t, v2, r0, r1, hA2, ht, ht0⟩ := hr.cells
  have hD : Below w.heap.size w w.drew := (Below.refl _ _).drew
  have hS := sumS_any s t x.natAbs y.natAbs v1 v2 w.drew (by cases s <;> cases t <;> simp at hs0 ht0 ⊢ <;> omega) hxy (hA1.below hD) (hA2.below hD)
  rw [hs, ht] at hS
  have hS2 : Calls Tryd.prog 38 #[.bool s, v1, .bool t, v2] w.drew fun e w' => (∃ s' r k, e = .returned (.tuple #[.bool s', r]) ∧ AbsOf w' r k ∧ sgn s' k = x + y) ∧ Below w.heap.size w w' := hS.mono fun e w1 h => ⟨h.1, hD.trans h.2⟩
  have HS := Lib.hid hS2
  have hG : ∀ s' r' k w1, AbsOf w1 r' k → sgn s' k = x + y → Below w.heap.size w w1 → Calls Tryd.prog 31 #[.pointer (some ⟨p, 0, none⟩), .bool s', r'] w1 fun e w' => e = .returned (.pointer (some ⟨p, 0, none⟩)) ∧ BigI w' p (x + y) ∧ Keeps (fun i => i = p) w w' := fun s' r' k w1 h1 h0 h2 => by
    refine (giveI_any p k s' r' w1 (hp.below h2) h1).mono ?_
    rintro e w' ⟨h3, h4, h5⟩
    exact ⟨h3, by rw [← h0]; exact h4, (Keeps.of_below (F := fun i => i = p) h2).trans h5 (fun _ _ h => h)⟩
  have HG := Lib.hid hG
  have HD := Lib.hid hD
  clear hA1 hA2 hp hq hr hG hD hS hS2 hs hs0 ht ht0 hxy
  go_enter Tryd.func19, Tryd.ntmps19
  go_wp2_with fail
  go_region_with (first | (go_at_call 38; with_reducible refine HS.out.mono ?_; rintro e w1 ⟨⟨s', r', k, rfl, hr1, hk1⟩, hb1⟩) | (go_at_call 31; with_reducible refine (HG.out _ _ _ _ hr1 hk1 hb1).mono ?_; rintro e w2 ⟨rfl, h1, h2⟩))
  all_goals
    go_wp2_with fail
    go_ret
    exact ⟨rfl, h1, h2⟩
end Go.Proofs.YtjbkfkgdpbjliaaDoor
