/-
  leap's small.
-/
import Derived.Test.YtabhpbkkjijfjaaZLeapStepsLGrid
namespace Go.Proofs.Ytabhpbkkjijfjaa
set_option maxRecDepth 100000
open Go.RowKit

/-- Behind some rounds of small's loop. -/
structure SS (w : World) (ga : Array Value) (z0 z1 z2 z3 : Int) (W : World) : Prop where
  below : Below w.heap.size w W
  grid : W.heap[w.heap.size]? = some (.cells ga 99 (0, 0))
  own : W.heap[w.heap.size + 1]? = some (.cells #[.int .i64 z0, .int .i64 z1, .int .i64 z2, .int .i64 z3] 72 (0, 0))
section
variable {w W W' : World} {ga : Array Value} {z0 z1 z2 z3 : Int}
theorem SS.more (h : SS w ga z0 z1 z2 z3 W) (hb : Below W.heap.size W W') : SS w ga z0 z1 z2 z3 W' :=
  ⟨h.below.trans (hb.mono h.below.size), (hb.block _ (lt_of_block h.grid)).trans h.grid, (hb.block _ (lt_of_block h.own)).trans h.own⟩
theorem SS.put0 (h : SS w ga z0 z1 z2 z3 W) (u : Int) : SS w ga u z1 z2 z3 (W.setCell ⟨w.heap.size + 1, 0, none⟩ (.int .i64 u)) :=
  ⟨h.below.setCell (p := ⟨w.heap.size + 1, 0, none⟩) (by show w.heap.size ≤ w.heap.size + 1; omega) _, by rw [Below.heap_setCell _ _ _ _ (by show w.heap.size ≠ w.heap.size + 1; omega)]; exact h.grid, Joins.block_setCell h.own _⟩
theorem SS.put1 (h : SS w ga z0 z1 z2 z3 W) (u : Int) : SS w ga z0 u z2 z3 (W.setCell ⟨w.heap.size + 1, 1, none⟩ (.int .i64 u)) :=
  ⟨h.below.setCell (p := ⟨w.heap.size + 1, 1, none⟩) (by show w.heap.size ≤ w.heap.size + 1; omega) _, by rw [Below.heap_setCell _ _ _ _ (by show w.heap.size ≠ w.heap.size + 1; omega)]; exact h.grid, Joins.block_setCell h.own _⟩
theorem SS.put2 (h : SS w ga z0 z1 z2 z3 W) (u : Int) : SS w ga z0 z1 u z3 (W.setCell ⟨w.heap.size + 1, 2, none⟩ (.int .i64 u)) :=
  ⟨h.below.setCell (p := ⟨w.heap.size + 1, 2, none⟩) (by show w.heap.size ≤ w.heap.size + 1; omega) _, by rw [Below.heap_setCell _ _ _ _ (by show w.heap.size ≠ w.heap.size + 1; omega)]; exact h.grid, Joins.block_setCell h.own _⟩
theorem SS.put3 (h : SS w ga z0 z1 z2 z3 W) (u : Int) : SS w ga z0 z1 z2 u (W.setCell ⟨w.heap.size + 1, 3, none⟩ (.int .i64 u)) :=
  ⟨h.below.setCell (p := ⟨w.heap.size + 1, 3, none⟩) (by show w.heap.size ≤ w.heap.size + 1; omega) _, by rw [Below.heap_setCell _ _ _ _ (by show w.heap.size ≠ w.heap.size + 1; omega)]; exact h.grid, Joins.block_setCell h.own _⟩
end
def upTo (j k : Nat) (z : Int) : Int := if j < k then z else 0
set_option maxHeartbeats 16000000 in
set_option maxRecDepth 100000 in
theorem lsmall_any (lb b t : Nat) (B Lv bad : Int) (S : ArS) (F : Nat → Prop) (g00 g01 g02 g03 g10 g11 g12 g13 g20 g21 g22 g23 g30 g31 g32 g33 : Int) (w : World) (h : IsAr b S w F) (hh : LAt lb b t B Lv bad w) (hn : ¬ F lb)
    (hg00 : 0 ≤ g00 ∧ g00 ≤ 1) (hg01 : 0 ≤ g01 ∧ g01 ≤ 1) (hg02 : 0 ≤ g02 ∧ g02 ≤ 1) (hg03 : 0 ≤ g03 ∧ g03 ≤ 1) (hg10 : 0 ≤ g10 ∧ g10 ≤ 1) (hg11 : 0 ≤ g11 ∧ g11 ≤ 1) (hg12 : 0 ≤ g12 ∧ g12 ≤ 1) (hg13 : 0 ≤ g13 ∧ g13 ≤ 1) (hg20 : 0 ≤ g20 ∧ g20 ≤ 1) (hg21 : 0 ≤ g21 ∧ g21 ≤ 1) (hg22 : 0 ≤ g22 ∧ g22 ≤ 1) (hg23 : 0 ≤ g23 ∧ g23 ≤ 1) (hg30 : 0 ≤ g30 ∧ g30 ≤ 1) (hg31 : 0 ≤ g31 ∧ g31 ≤ 1) (hg32 : 0 ≤ g32 ∧ g32 ≤ 1) (hg33 : 0 ≤ g33 ∧ g33 ≤ 1) :
    Calls Try.prog 51 #[.pointer (some ⟨lb, 0, none⟩), .agg #[.int .i64 g00, .int .i64 g01, .int .i64 g02, .int .i64 g03, .int .i64 g10, .int .i64 g11, .int .i64 g12, .int .i64 g13, .int .i64 g20, .int .i64 g21, .int .i64 g22, .int .i64 g23, .int .i64 g30, .int .i64 g31, .int .i64 g32, .int .i64 g33]] w (LMut w F lb b t B Lv fun S' bad' v => ∃ r, v = .int .i64 r ∧ JoinH S t ((if livesF B Lv (g11 == 1) (-g11 + g00 + g01 + g02 + g10 + g11 + g12 + g20 + g21 + g22) = true then 1 else 0), (if livesF B Lv (g12 == 1) (-g12 + g01 + g02 + g03 + g11 + g12 + g13 + g21 + g22 + g23) = true then 1 else 0), (if livesF B Lv (g21 == 1) (-g21 + g10 + g11 + g12 + g20 + g21 + g22 + g30 + g31 + g32) = true then 1 else 0), (if livesF B Lv (g22 == 1) (-g22 + g11 + g12 + g13 + g21 + g22 + g23 + g31 + g32 + g33) = true then 1 else 0)) bad r S' bad') := by
  have hlt := hh.lt
  obtain ⟨z0, hz0⟩ : ∃ z : Int, z = (if livesF B Lv (g11 == 1) (-g11 + g00 + g01 + g02 + g10 + g11 + g12 + g20 + g21 + g22) = true then 1 else 0) := ⟨_, rfl⟩
  obtain ⟨z1, hz1⟩ : ∃ z : Int, z = (if livesF B Lv (g12 == 1) (-g12 + g01 + g02 + g03 + g11 + g12 + g13 + g21 + g22 + g23) = true then 1 else 0) := ⟨_, rfl⟩
  obtain ⟨z2, hz2⟩ : ∃ z : Int, z = (if livesF B Lv (g21 == 1) (-g21 + g10 + g11 + g12 + g20 + g21 + g22 + g30 + g31 + g32) = true then 1 else 0) := ⟨_, rfl⟩
  obtain ⟨z3, hz3⟩ : ∃ z : Int, z = (if livesF B Lv (g22 == 1) (-g22 + g11 + g12 + g13 + g21 + g22 + g23 + g31 + g32 + g33) = true then 1 else 0) := ⟨_, rfl⟩
  rw [← hz0, ← hz1, ← hz2, ← hz3]
  have hzb : ∀ (c : Bool), I64 (if c = true then 1 else 0) := fun c => by cases c <;> (unfold I64; decide)
  have HZ64 := Lib.hid (show I64 z0 ∧ I64 z1 ∧ I64 z2 ∧ I64 z3 from ⟨by rw [hz0]; exact hzb _, by rw [hz1]; exact hzb _, by rw [hz2]; exact hzb _, by rw [hz3]; exact hzb _⟩)
  have HZ0 := Lib.hid hz0
  have HZ1 := Lib.hid hz1
  have HZ2 := Lib.hid hz2
  have HZ3 := Lib.hid hz3
  obtain ⟨X, hXe⟩ : ∃ X, X = (w.alloc (.cells #[.int .i64 g00, .int .i64 g01, .int .i64 g02, .int .i64 g03, .int .i64 g10, .int .i64 g11, .int .i64 g12, .int .i64 g13, .int .i64 g20, .int .i64 g21, .int .i64 g22, .int .i64 g23, .int .i64 g30, .int .i64 g31, .int .i64 g32, .int .i64 g33] 99 (0, 0))).alloc (.cells #[.int .i64 0, .int .i64 0, .int .i64 0, .int .i64 0] 72 (0, 0)) := ⟨_, rfl⟩
  have h0 : Aside (SS w #[.int .i64 g00, .int .i64 g01, .int .i64 g02, .int .i64 g03, .int .i64 g10, .int .i64 g11, .int .i64 g12, .int .i64 g13, .int .i64 g20, .int .i64 g21, .int .i64 g22, .int .i64 g23, .int .i64 g30, .int .i64 g31, .int .i64 g32, .int .i64 g33] (upTo 0 0 z0) (upTo 1 0 z1) (upTo 2 0 z2) (upTo 3 0 z3) X) := by
    refine ⟨?_, ?_, ?_⟩
    · rw [hXe]; exact ((Below.refl _ _).alloc (Nat.le_refl _) _).alloc (by simp) _
    · rw [hXe, Below.heap_alloc _ _ _ (by simp)]; exact blk_last w _ rfl
    · rw [hXe, show w.heap.size + 1 = (w.alloc (.cells #[.int .i64 g00, .int .i64 g01, .int .i64 g02, .int .i64 g03, .int .i64 g10, .int .i64 g11, .int .i64 g12, .int .i64 g13, .int .i64 g20, .int .i64 g21, .int .i64 g22, .int .i64 g23, .int .i64 g30, .int .i64 g31, .int .i64 g32, .int .i64 g33] 99 (0, 0))).heap.size by simp]; exact blk_last _ _ rfl
  have HXE := Lib.hid hXe
  have HI := Lib.hid h
  have HH := Lib.hid hh
  clear h hh hXe hz0 hz1 hz2 hz3 hzb
  go_enter Try.func51, Try.ntmps51
  go_upto_region 2 with fail
  rw [← HXE.out]
  go_wp2_with fail
  go_loopw [6, 7, 8, 9, 10, 11, 12] (fun _ _ _ _ _ _ kv ws => ∃ k : Nat, kv = .int .i64 k ∧ k ≤ 4 ∧ Aside (SS w #[.int .i64 g00, .int .i64 g01, .int .i64 g02, .int .i64 g03, .int .i64 g10, .int .i64 g11, .int .i64 g12, .int .i64 g13, .int .i64 g20, .int .i64 g21, .int .i64 g22, .int .i64 g23, .int .i64 g30, .int .i64 g31, .int .i64 g32, .int .i64 g33] (upTo 0 k z0) (upTo 1 k z1) (upTo 2 k z2) (upTo 3 k z3) ws)) (fun _ _ _ _ _ _ kv _ => 4 - (intOf kv).toNat)
  case atStart => exact ⟨0, rfl, by omega, h0⟩
  case round =>
    obtain ⟨k, rfl, hk, HS⟩ := hrel
    have e00 : wr.cell? ⟨w.heap.size, 0, none⟩ = some (.int .i64 g00) := Joins.cell_of_block HS.out.grid 0
    have e01 : wr.cell? ⟨w.heap.size, 1, none⟩ = some (.int .i64 g01) := Joins.cell_of_block HS.out.grid 1
    have e02 : wr.cell? ⟨w.heap.size, 2, none⟩ = some (.int .i64 g02) := Joins.cell_of_block HS.out.grid 2
    have e03 : wr.cell? ⟨w.heap.size, 3, none⟩ = some (.int .i64 g03) := Joins.cell_of_block HS.out.grid 3
    have e10 : wr.cell? ⟨w.heap.size, 4, none⟩ = some (.int .i64 g10) := Joins.cell_of_block HS.out.grid 4
    have e11 : wr.cell? ⟨w.heap.size, 5, none⟩ = some (.int .i64 g11) := Joins.cell_of_block HS.out.grid 5
    have e12 : wr.cell? ⟨w.heap.size, 6, none⟩ = some (.int .i64 g12) := Joins.cell_of_block HS.out.grid 6
    have e13 : wr.cell? ⟨w.heap.size, 7, none⟩ = some (.int .i64 g13) := Joins.cell_of_block HS.out.grid 7
    have e20 : wr.cell? ⟨w.heap.size, 8, none⟩ = some (.int .i64 g20) := Joins.cell_of_block HS.out.grid 8
    have e21 : wr.cell? ⟨w.heap.size, 9, none⟩ = some (.int .i64 g21) := Joins.cell_of_block HS.out.grid 9
    have e22 : wr.cell? ⟨w.heap.size, 10, none⟩ = some (.int .i64 g22) := Joins.cell_of_block HS.out.grid 10
    have e23 : wr.cell? ⟨w.heap.size, 11, none⟩ = some (.int .i64 g23) := Joins.cell_of_block HS.out.grid 11
    have e30 : wr.cell? ⟨w.heap.size, 12, none⟩ = some (.int .i64 g30) := Joins.cell_of_block HS.out.grid 12
    have e31 : wr.cell? ⟨w.heap.size, 13, none⟩ = some (.int .i64 g31) := Joins.cell_of_block HS.out.grid 13
    have e32 : wr.cell? ⟨w.heap.size, 14, none⟩ = some (.int .i64 g32) := Joins.cell_of_block HS.out.grid 14
    have e33 : wr.cell? ⟨w.heap.size, 15, none⟩ = some (.int .i64 g33) := Joins.cell_of_block HS.out.grid 15
    have l2 : wr.cell? ⟨lb, 2, none⟩ = some (.int .i64 B) := (HS.out.below.cell (p := ⟨lb, 2, none⟩) hlt).trans HH.out.c2
    have l3 : wr.cell? ⟨lb, 3, none⟩ = some (.int .i64 Lv) := (HS.out.below.cell (p := ⟨lb, 3, none⟩) hlt).trans HH.out.c3
    have q0 := Joins.cell_of_block HS.out.own 0
    have q1 := Joins.cell_of_block HS.out.own 1
    have q2 := Joins.cell_of_block HS.out.own 2
    have q3 := Joins.cell_of_block HS.out.own 3
    have qf := fun j => Joins.unfrozen_of_block HS.out.own j
    simp at q0 q1 q2 q3
    have hlw : lb < wr.heap.size := Nat.lt_of_lt_of_le hlt HS.out.below.size
    have hgw : w.heap.size < wr.heap.size := lt_of_block HS.out.grid
    have hqw : w.heap.size + 1 < wr.heap.size := lt_of_block HS.out.own
    rcases (show k = 0 ∨ k = 1 ∨ k = 2 ∨ k = 3 ∨ k = 4 by omega) with rfl | rfl | rfl | rfl | rfl
    · have HSC := Lib.hid (show ∀ w', Below wr.heap.size wr w' → w'.cell? ⟨lb, 2, none⟩ = some (.int .i64 B) ∧ w'.cell? ⟨lb, 3, none⟩ = some (.int .i64 Lv) ∧ w'.cell? ⟨w.heap.size, 5, none⟩ = some (.int .i64 g11) from fun w' hb => ⟨(hb.cell (p := ⟨lb, 2, none⟩) hlw).trans l2, (hb.cell (p := ⟨lb, 3, none⟩) hlw).trans l3, (hb.cell (p := ⟨w.heap.size, 5, none⟩) hgw).trans e11⟩)
      have HD := Lib.hid (show Below wr.heap.size wr wr.drew from (Below.refl _ wr).drew)
      have HL := Lib.hid (fun W (hb : Below wr.heap.size wr W) => (lives_any B Lv (-g11 + g00 + g01 + g02 + g10 + g11 + g12 + g20 + g21 + g22) (g11 == 1) W).mono (fun e w' (h : e = .returned (.bool (livesF B Lv (g11 == 1) (-g11 + g00 + g01 + g02 + g10 + g11 + g12 + g20 + g21 + g22))) ∧ Below W.heap.size W w') => (show e = .returned (.bool (livesF B Lv (g11 == 1) (-g11 + g00 + g01 + g02 + g10 + g11 + g12 + g20 + g21 + g22))) ∧ Below wr.heap.size wr w' from ⟨h.1, hb.trans (h.2.mono hb.size)⟩)))
      go_wp2_with fail
      refine wp_loop_rounds 4 ?_
      rw [rounds_succ]
      go_wp2_with fail
      refine wp_loop_rounds 4 ?_
      rw [rounds_succ]
      go_wp2_with fail
      rw [rounds_succ]
      go_wp2_with fail
      rw [rounds_succ]
      go_wp2_with fail
      rw [rounds_succ]
      go_wp2_with fail
      rw [rounds_succ]
      go_wp2_with fail
      refine wp_loop_rounds 4 ?_
      rw [rounds_succ]
      go_wp2_with fail
      rw [rounds_succ]
      go_wp2_with fail
      rw [rounds_succ]
      go_wp2_with fail
      rw [rounds_succ]
      go_wp2_with fail
      rw [rounds_succ]
      go_wp2_with fail
      refine wp_loop_rounds 4 ?_
      rw [rounds_succ]
      go_wp2_with fail
      rw [rounds_succ]
      go_wp2_with fail
      rw [rounds_succ]
      go_wp2_with fail
      rw [rounds_succ]
      go_wp2_with fail
      rw [rounds_succ]
      go_wp2_with fail
      go_region_held3 (fun w' => w'.cell? ⟨lb, 2, none⟩ = some (.int .i64 B) ∧ w'.cell? ⟨lb, 3, none⟩ = some (.int .i64 Lv) ∧ w'.cell? ⟨w.heap.size, 5, none⟩ = some (.int .i64 g11)) (first | exact HSC.out _ HD.out | exact HSC.out _ (by assumption)) ((go_at_call 62; with_reducible refine (HL.out _ HD.out).mono ?_; rintro e w1 ⟨rfl, hb1⟩))
      have hs1 := HS.out.more hb1
      have HS1 := Lib.hid hs1
      have p0 : w1.cell? ⟨w.heap.size + 1, 0, none⟩ = some (.int .i64 0) := Joins.cell_of_block hs1.own 0
      have pf := fun j => Joins.unfrozen_of_block hs1.own j
      have hz := HZ0.out
      obtain ⟨lv, hlv⟩ : ∃ lv, lv = livesF B Lv (g11 == 1) (-g11 + g00 + g01 + g02 + g10 + g11 + g12 + g20 + g21 + g22) := ⟨_, rfl⟩
      rw [← hlv] at hz ⊢
      clear hs1 hb1 hlv
      cases lv with
      | true =>
        have HZ := Lib.hid hz
        clear hz
        go_wp2_with fail
        refine ⟨⟨1, rfl, by omega, ?_⟩, by simp [intOf]⟩
        show SS _ _ _ _ _ _ _
        have := HS1.out.put0 z0
        rw [show z0 = 1 from HZ.out] at this ⊢
        exact this
      | false =>
        have HZ := Lib.hid hz
        clear hz
        go_wp2_with fail
        refine ⟨⟨1, rfl, by omega, ?_⟩, by simp [intOf]⟩
        show SS _ _ _ _ _ _ _
        have := HS1.out
        rw [show z0 = 0 from HZ.out]
        exact this
    · have HSC := Lib.hid (show ∀ w', Below wr.heap.size wr w' → w'.cell? ⟨lb, 2, none⟩ = some (.int .i64 B) ∧ w'.cell? ⟨lb, 3, none⟩ = some (.int .i64 Lv) ∧ w'.cell? ⟨w.heap.size, 6, none⟩ = some (.int .i64 g12) from fun w' hb => ⟨(hb.cell (p := ⟨lb, 2, none⟩) hlw).trans l2, (hb.cell (p := ⟨lb, 3, none⟩) hlw).trans l3, (hb.cell (p := ⟨w.heap.size, 6, none⟩) hgw).trans e12⟩)
      have HD := Lib.hid (show Below wr.heap.size wr wr.drew from (Below.refl _ wr).drew)
      have HL := Lib.hid (fun W (hb : Below wr.heap.size wr W) => (lives_any B Lv (-g12 + g01 + g02 + g03 + g11 + g12 + g13 + g21 + g22 + g23) (g12 == 1) W).mono (fun e w' (h : e = .returned (.bool (livesF B Lv (g12 == 1) (-g12 + g01 + g02 + g03 + g11 + g12 + g13 + g21 + g22 + g23))) ∧ Below W.heap.size W w') => (show e = .returned (.bool (livesF B Lv (g12 == 1) (-g12 + g01 + g02 + g03 + g11 + g12 + g13 + g21 + g22 + g23))) ∧ Below wr.heap.size wr w' from ⟨h.1, hb.trans (h.2.mono hb.size)⟩)))
      go_wp2_with fail
      refine wp_loop_rounds 4 ?_
      rw [rounds_succ]
      go_wp2_with fail
      refine wp_loop_rounds 4 ?_
      rw [rounds_succ]
      go_wp2_with fail
      rw [rounds_succ]
      go_wp2_with fail
      rw [rounds_succ]
      go_wp2_with fail
      rw [rounds_succ]
      go_wp2_with fail
      rw [rounds_succ]
      go_wp2_with fail
      refine wp_loop_rounds 4 ?_
      rw [rounds_succ]
      go_wp2_with fail
      rw [rounds_succ]
      go_wp2_with fail
      rw [rounds_succ]
      go_wp2_with fail
      rw [rounds_succ]
      go_wp2_with fail
      rw [rounds_succ]
      go_wp2_with fail
      refine wp_loop_rounds 4 ?_
      rw [rounds_succ]
      go_wp2_with fail
      rw [rounds_succ]
      go_wp2_with fail
      rw [rounds_succ]
      go_wp2_with fail
      rw [rounds_succ]
      go_wp2_with fail
      rw [rounds_succ]
      go_wp2_with fail
      go_region_held3 (fun w' => w'.cell? ⟨lb, 2, none⟩ = some (.int .i64 B) ∧ w'.cell? ⟨lb, 3, none⟩ = some (.int .i64 Lv) ∧ w'.cell? ⟨w.heap.size, 6, none⟩ = some (.int .i64 g12)) (first | exact HSC.out _ HD.out | exact HSC.out _ (by assumption)) ((go_at_call 62; with_reducible refine (HL.out _ HD.out).mono ?_; rintro e w1 ⟨rfl, hb1⟩))
      have hs1 := HS.out.more hb1
      have HS1 := Lib.hid hs1
      have p1 : w1.cell? ⟨w.heap.size + 1, 1, none⟩ = some (.int .i64 0) := Joins.cell_of_block hs1.own 1
      have pf := fun j => Joins.unfrozen_of_block hs1.own j
      have hz := HZ1.out
      obtain ⟨lv, hlv⟩ : ∃ lv, lv = livesF B Lv (g12 == 1) (-g12 + g01 + g02 + g03 + g11 + g12 + g13 + g21 + g22 + g23) := ⟨_, rfl⟩
      rw [← hlv] at hz ⊢
      clear hs1 hb1 hlv
      cases lv with
      | true =>
        have HZ := Lib.hid hz
        clear hz
        go_wp2_with fail
        refine ⟨⟨2, rfl, by omega, ?_⟩, by simp [intOf]⟩
        show SS _ _ _ _ _ _ _
        have := HS1.out.put1 z1
        rw [show z1 = 1 from HZ.out] at this ⊢
        exact this
      | false =>
        have HZ := Lib.hid hz
        clear hz
        go_wp2_with fail
        refine ⟨⟨2, rfl, by omega, ?_⟩, by simp [intOf]⟩
        show SS _ _ _ _ _ _ _
        have := HS1.out
        rw [show z1 = 0 from HZ.out]
        exact this
    · have HSC := Lib.hid (show ∀ w', Below wr.heap.size wr w' → w'.cell? ⟨lb, 2, none⟩ = some (.int .i64 B) ∧ w'.cell? ⟨lb, 3, none⟩ = some (.int .i64 Lv) ∧ w'.cell? ⟨w.heap.size, 9, none⟩ = some (.int .i64 g21) from fun w' hb => ⟨(hb.cell (p := ⟨lb, 2, none⟩) hlw).trans l2, (hb.cell (p := ⟨lb, 3, none⟩) hlw).trans l3, (hb.cell (p := ⟨w.heap.size, 9, none⟩) hgw).trans e21⟩)
      have HD := Lib.hid (show Below wr.heap.size wr wr.drew from (Below.refl _ wr).drew)
      have HL := Lib.hid (fun W (hb : Below wr.heap.size wr W) => (lives_any B Lv (-g21 + g10 + g11 + g12 + g20 + g21 + g22 + g30 + g31 + g32) (g21 == 1) W).mono (fun e w' (h : e = .returned (.bool (livesF B Lv (g21 == 1) (-g21 + g10 + g11 + g12 + g20 + g21 + g22 + g30 + g31 + g32))) ∧ Below W.heap.size W w') => (show e = .returned (.bool (livesF B Lv (g21 == 1) (-g21 + g10 + g11 + g12 + g20 + g21 + g22 + g30 + g31 + g32))) ∧ Below wr.heap.size wr w' from ⟨h.1, hb.trans (h.2.mono hb.size)⟩)))
      go_wp2_with fail
      refine wp_loop_rounds 4 ?_
      rw [rounds_succ]
      go_wp2_with fail
      refine wp_loop_rounds 4 ?_
      rw [rounds_succ]
      go_wp2_with fail
      rw [rounds_succ]
      go_wp2_with fail
      rw [rounds_succ]
      go_wp2_with fail
      rw [rounds_succ]
      go_wp2_with fail
      rw [rounds_succ]
      go_wp2_with fail
      refine wp_loop_rounds 4 ?_
      rw [rounds_succ]
      go_wp2_with fail
      rw [rounds_succ]
      go_wp2_with fail
      rw [rounds_succ]
      go_wp2_with fail
      rw [rounds_succ]
      go_wp2_with fail
      rw [rounds_succ]
      go_wp2_with fail
      refine wp_loop_rounds 4 ?_
      rw [rounds_succ]
      go_wp2_with fail
      rw [rounds_succ]
      go_wp2_with fail
      rw [rounds_succ]
      go_wp2_with fail
      rw [rounds_succ]
      go_wp2_with fail
      rw [rounds_succ]
      go_wp2_with fail
      go_region_held3 (fun w' => w'.cell? ⟨lb, 2, none⟩ = some (.int .i64 B) ∧ w'.cell? ⟨lb, 3, none⟩ = some (.int .i64 Lv) ∧ w'.cell? ⟨w.heap.size, 9, none⟩ = some (.int .i64 g21)) (first | exact HSC.out _ HD.out | exact HSC.out _ (by assumption)) ((go_at_call 62; with_reducible refine (HL.out _ HD.out).mono ?_; rintro e w1 ⟨rfl, hb1⟩))
      have hs1 := HS.out.more hb1
      have HS1 := Lib.hid hs1
      have p2 : w1.cell? ⟨w.heap.size + 1, 2, none⟩ = some (.int .i64 0) := Joins.cell_of_block hs1.own 2
      have pf := fun j => Joins.unfrozen_of_block hs1.own j
      have hz := HZ2.out
      obtain ⟨lv, hlv⟩ : ∃ lv, lv = livesF B Lv (g21 == 1) (-g21 + g10 + g11 + g12 + g20 + g21 + g22 + g30 + g31 + g32) := ⟨_, rfl⟩
      rw [← hlv] at hz ⊢
      clear hs1 hb1 hlv
      cases lv with
      | true =>
        have HZ := Lib.hid hz
        clear hz
        go_wp2_with fail
        refine ⟨⟨3, rfl, by omega, ?_⟩, by simp [intOf]⟩
        show SS _ _ _ _ _ _ _
        have := HS1.out.put2 z2
        rw [show z2 = 1 from HZ.out] at this ⊢
        exact this
      | false =>
        have HZ := Lib.hid hz
        clear hz
        go_wp2_with fail
        refine ⟨⟨3, rfl, by omega, ?_⟩, by simp [intOf]⟩
        show SS _ _ _ _ _ _ _
        have := HS1.out
        rw [show z2 = 0 from HZ.out]
        exact this
    · have HSC := Lib.hid (show ∀ w', Below wr.heap.size wr w' → w'.cell? ⟨lb, 2, none⟩ = some (.int .i64 B) ∧ w'.cell? ⟨lb, 3, none⟩ = some (.int .i64 Lv) ∧ w'.cell? ⟨w.heap.size, 10, none⟩ = some (.int .i64 g22) from fun w' hb => ⟨(hb.cell (p := ⟨lb, 2, none⟩) hlw).trans l2, (hb.cell (p := ⟨lb, 3, none⟩) hlw).trans l3, (hb.cell (p := ⟨w.heap.size, 10, none⟩) hgw).trans e22⟩)
      have HD := Lib.hid (show Below wr.heap.size wr wr.drew from (Below.refl _ wr).drew)
      have HL := Lib.hid (fun W (hb : Below wr.heap.size wr W) => (lives_any B Lv (-g22 + g11 + g12 + g13 + g21 + g22 + g23 + g31 + g32 + g33) (g22 == 1) W).mono (fun e w' (h : e = .returned (.bool (livesF B Lv (g22 == 1) (-g22 + g11 + g12 + g13 + g21 + g22 + g23 + g31 + g32 + g33))) ∧ Below W.heap.size W w') => (show e = .returned (.bool (livesF B Lv (g22 == 1) (-g22 + g11 + g12 + g13 + g21 + g22 + g23 + g31 + g32 + g33))) ∧ Below wr.heap.size wr w' from ⟨h.1, hb.trans (h.2.mono hb.size)⟩)))
      go_wp2_with fail
      refine wp_loop_rounds 4 ?_
      rw [rounds_succ]
      go_wp2_with fail
      refine wp_loop_rounds 4 ?_
      rw [rounds_succ]
      go_wp2_with fail
      rw [rounds_succ]
      go_wp2_with fail
      rw [rounds_succ]
      go_wp2_with fail
      rw [rounds_succ]
      go_wp2_with fail
      rw [rounds_succ]
      go_wp2_with fail
      refine wp_loop_rounds 4 ?_
      rw [rounds_succ]
      go_wp2_with fail
      rw [rounds_succ]
      go_wp2_with fail
      rw [rounds_succ]
      go_wp2_with fail
      rw [rounds_succ]
      go_wp2_with fail
      rw [rounds_succ]
      go_wp2_with fail
      refine wp_loop_rounds 4 ?_
      rw [rounds_succ]
      go_wp2_with fail
      rw [rounds_succ]
      go_wp2_with fail
      rw [rounds_succ]
      go_wp2_with fail
      rw [rounds_succ]
      go_wp2_with fail
      rw [rounds_succ]
      go_wp2_with fail
      go_region_held3 (fun w' => w'.cell? ⟨lb, 2, none⟩ = some (.int .i64 B) ∧ w'.cell? ⟨lb, 3, none⟩ = some (.int .i64 Lv) ∧ w'.cell? ⟨w.heap.size, 10, none⟩ = some (.int .i64 g22)) (first | exact HSC.out _ HD.out | exact HSC.out _ (by assumption)) ((go_at_call 62; with_reducible refine (HL.out _ HD.out).mono ?_; rintro e w1 ⟨rfl, hb1⟩))
      have hs1 := HS.out.more hb1
      have HS1 := Lib.hid hs1
      have p3 : w1.cell? ⟨w.heap.size + 1, 3, none⟩ = some (.int .i64 0) := Joins.cell_of_block hs1.own 3
      have pf := fun j => Joins.unfrozen_of_block hs1.own j
      have hz := HZ3.out
      obtain ⟨lv, hlv⟩ : ∃ lv, lv = livesF B Lv (g22 == 1) (-g22 + g11 + g12 + g13 + g21 + g22 + g23 + g31 + g32 + g33) := ⟨_, rfl⟩
      rw [← hlv] at hz ⊢
      clear hs1 hb1 hlv
      cases lv with
      | true =>
        have HZ := Lib.hid hz
        clear hz
        go_wp2_with fail
        refine ⟨⟨4, rfl, by omega, ?_⟩, by simp [intOf]⟩
        show SS _ _ _ _ _ _ _
        have := HS1.out.put3 z3
        rw [show z3 = 1 from HZ.out] at this ⊢
        exact this
      | false =>
        have HZ := Lib.hid hz
        clear hz
        go_wp2_with fail
        refine ⟨⟨4, rfl, by omega, ?_⟩, by simp [intOf]⟩
        show SS _ _ _ _ _ _ _
        have := HS1.out
        rw [show z3 = 0 from HZ.out]
        exact this
    · have HJ := Lib.hid (ljoin_any lb b t B Lv bad S F z0 z1 z2 z3 wr (HI.out.below HS.out.below) (HH.out.keep (HS.out.below.block lb hlt)) hn HZ64.out)
      have HLS := Lib.hid (show LState w F lb b t B Lv S bad F wr from (LState.refl HI.out HH.out).below HS.out.below)
      go_wp2_with fail
      refine HJ.out.mono ?_
      rintro e w1 ⟨S', bad', v, F', rfl, hp, hst⟩
      have HP := Lib.hid hp
      have HST := Lib.hid hst
      clear hp hst
      go_wp2_with fail
      go_ret
      exact ⟨S', bad', v, F', rfl, HP.out, HLS.out.trans HST.out⟩
end Go.Proofs.Ytabhpbkkjijfjaa
