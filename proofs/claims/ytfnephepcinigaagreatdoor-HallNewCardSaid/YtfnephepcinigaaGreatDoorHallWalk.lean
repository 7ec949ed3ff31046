/-
  hall.New, a nil hall, and the law that asks both.
-/
import Derived.Test.YtfnephepcinigaaGreatDoorKinds3
import Derived.Test.YtfnephepcinigaaGreatDoorCells
import Derived.Test.YtfnephepcinigaaGreatDoorArenaNew
namespace Go.Proofs.YtfnephepcinigaaGreatDoor
set_option maxRecDepth 100000
open Go.RowKit

theorem request_any (q : ReqD) (cv : Value) (zs : List (Int × Int)) (w : World) (hs : IsSl w 2 16 cv zs.length (zs.flatMap encCell)) :
    Calls Tryz.prog 15 #[.agg (q.cells cv).toArray] w fun e w' => ∃ u, e = .returned (.agg (q.cells u).toArray) ∧ Below w.heap.size w w' := by
  obtain ⟨a, cap, rfl, hs⟩ := hs
  obtain ⟨v, n, o, b, l, m⟩ := q
  have HS := Lib.hid hs
  show Calls Tryz.prog 15 #[.agg #[.int .i64 v, .string n, .string o, .int .i64 b, .int .i64 l, .int .i64 m, .slice a zs.length cap]] w _
  obtain ⟨k, hk⟩ : ∃ k, k = zs.length := ⟨_, rfl⟩
  have hc : ∀ W, Below w.heap.size w W → w.heap.size ≤ W.heap.size → Calls Tryz.prog 30 #[.slice a k cap] W (Cells W zs) := fun W hW hz => by
    rw [hk]; exact cells_any zs a cap W (hs.below (by omega) hW)
  rw [← hk]
  have HC := Lib.hid hc
  clear hs hk hc
  go_enter Tryz.func15, Tryz.ntmps15
  go_wp2_with fail
  refine (HC.out _ (((Below.refl _ _).alloc (Nat.le_refl _) _).alloc (by simp) _) (by simp; omega)).mono ?_
  rintro e w2 ⟨u, rfl, hb, ho⟩
  obtain ⟨va, vc, rfl⟩ := own_form ho
  clear ho
  have hb1 := hb.block w.heap.size (by simp; omega)
  rw [blk_alloc (blk_last w _ rfl)] at hb1
  have hb2 := hb.block (w.heap.size + 1) (by simp)
  rw [blk_last _ _ (by simp)] at hb2
  have hB := (((Below.refl w.heap.size w).alloc (Nat.le_refl _) (.cells #[.int .i64 v, .string n, .string o, .int .i64 b, .int .i64 l, .int .i64 m, .slice a k cap] 35)).alloc (by simp) _).trans (hb.mono (by simp; omega))
  clear hb
  have x6 := Joins.cell_of_block hb1 6
  have f6 := Joins.unfrozen_of_block hb1 6
  have hs1 := Joins.block_setCell (i := 6) hb1 (.slice va zs.length vc)
  have hs2 := blk_set hb2 (a := ⟨w.heap.size, 6, none⟩) (by simp) (.slice va zs.length vc)
  have y0 := Joins.cell_of_block hs1 0
  have y1 := Joins.cell_of_block hs1 1
  have y2 := Joins.cell_of_block hs1 2
  have y3 := Joins.cell_of_block hs1 3
  have y4 := Joins.cell_of_block hs1 4
  have y5 := Joins.cell_of_block hs1 5
  have y6 := Joins.cell_of_block hs1 6
  have z0 := Joins.cell_of_block hs2 0
  have g0 := Joins.unfrozen_of_block hs2 0
  have hq0 := Joins.block_setCell (i := 0) hs2 (.int .i64 v)
  have z1 := Joins.cell_of_block hq0 1
  have g1 := Joins.unfrozen_of_block hq0 1
  have hq1 := Joins.block_setCell (i := 1) hq0 (.string n)
  have z2 := Joins.cell_of_block hq1 2
  have g2 := Joins.unfrozen_of_block hq1 2
  have hq2 := Joins.block_setCell (i := 2) hq1 (.string o)
  have z3 := Joins.cell_of_block hq2 3
  have g3 := Joins.unfrozen_of_block hq2 3
  have hq3 := Joins.block_setCell (i := 3) hq2 (.int .i64 b)
  have z4 := Joins.cell_of_block hq3 4
  have g4 := Joins.unfrozen_of_block hq3 4
  have hq4 := Joins.block_setCell (i := 4) hq3 (.int .i64 l)
  have z5 := Joins.cell_of_block hq4 5
  have g5 := Joins.unfrozen_of_block hq4 5
  have hq5 := Joins.block_setCell (i := 5) hq4 (.int .i64 m)
  have z6 := Joins.cell_of_block hq5 6
  have g6 := Joins.unfrozen_of_block hq5 6
  have hq6 := Joins.block_setCell (i := 6) hq5 (.slice va zs.length vc)
  have p0 := Joins.cell_of_block hq6 0
  have p1 := Joins.cell_of_block hq6 1
  have p2 := Joins.cell_of_block hq6 2
  have p3 := Joins.cell_of_block hq6 3
  have p4 := Joins.cell_of_block hq6 4
  have p5 := Joins.cell_of_block hq6 5
  have p6 := Joins.cell_of_block hq6 6
  simp at x6 y0 y1 y2 y3 y4 y5 y6 z0 z1 z2 z3 z4 z5 z6 p0 p1 p2 p3 p4 p5 p6
  clear hs1 hs2 hq0 hq1 hq2 hq3 hq4 hq5 hq6 hb1 hb2
  go_wp2_with fail
  refine bodyPost_ret (v := .agg #[.int .i64 v, .string n, .string o, .int .i64 b, .int .i64 l, .int .i64 m, .slice va zs.length vc]) (by simp [results, Tryz.results15, go_sem, p0, p1, p2, p3, p4, p5, p6]) rfl ⟨.slice va zs.length vc, rfl, ((((((((hB.setCell (by simp) _).setCell (by simp) _).setCell (by simp) _).setCell (by simp) _).setCell (by simp) _).setCell (by simp) _).setCell (by simp) _).setCell (by simp) _)⟩
theorem hdo_nil (arr : Array Value) (w : World) (_hsz : arr.size = 7) : Calls Tryz.prog 14 #[.pointer none, .agg arr] w fun e w' => e = .returned (.agg #[.int .i64 11, .int .i64 0, .int .i64 0, .int .i64 0, .int .i64 0, .int .i64 0, .int .i64 0, .int .i64 0, .string ⟨#[]⟩, .slice none 0 0]) ∧ Below w.heap.size w w' := by
  go_enter Tryz.func14, Tryz.ntmps14
  go_wp2_with fail
  refine bodyPost_ret (v := .agg #[.int .i64 11, .int .i64 0, .int .i64 0, .int .i64 0, .int .i64 0, .int .i64 0, .int .i64 0, .int .i64 0, .string ⟨#[]⟩, .slice none 0 0]) (by simp [results, Tryz.results14, go_sem]) rfl ⟨rfl, ((Below.refl _ _).alloc (Nat.le_refl _) _).alloc (by simp) _⟩
theorem hallNew_range (a : Value) (t d : Int) (w : World) (h : t < 0 ∨ 64 ≤ t) : Calls Tryz.prog 13 #[a, .int .i64 t, .int .i64 d] w fun e w' => e = .returned (.tuple #[.pointer none, .int .i64 3]) ∧ w = w' := by
  by_cases h0 : t < 0
  · have h1 : decide (t < 0) = true := by simp [h0]
    go_enter Tryz.func13, Tryz.ntmps13
    go_wp2_with fail
    refine bodyPost_ret (v := .tuple #[.pointer none, .int .i64 3]) (by simp [results, Tryz.results13, go_sem]) rfl ⟨rfl, rfl⟩
  · have h1 : decide (t < 0) = false := by simp; omega
    have h2 : decide (64 ≤ t) = true := by simp; omega
    have h3 : 0 ≤ t := by omega
    have h4 : 64 ≤ t := by omega
    go_enter Tryz.func13, Tryz.ntmps13
    go_wp2_with fail
    refine bodyPost_ret (v := .tuple #[.pointer none, .int .i64 3]) (by simp [results, Tryz.results13, go_sem]) rfl ⟨rfl, rfl⟩
theorem hallNew_nil (d : Int) (w : World) : Calls Tryz.prog 13 #[.pointer none, .int .i64 0, .int .i64 d] w fun e w' => e = .returned (.tuple #[.pointer none, .int .i64 11]) ∧ w = w' := by
  go_enter Tryz.func13, Tryz.ntmps13
  go_wp2_with fail
  refine bodyPost_ret (v := .tuple #[.pointer none, .int .i64 11]) (by simp [results, Tryz.results13, go_sem]) rfl ⟨rfl, rfl⟩
theorem hallNew_ok (b : Nat) (t d : Int) (w : World) (h0 : 0 ≤ t) (h1 : t < 64) : Calls Tryz.prog 13 #[.pointer (some ⟨b, 0, none⟩), .int .i64 t, .int .i64 d] w fun e w' => ∃ g, e = .returned (.tuple #[.pointer (some ⟨g, 0, none⟩), .int .i64 0]) ∧ Below w.heap.size w w' := by
  have h2 : decide (t < 0) = false := by simp; omega
  have h3 : decide (64 ≤ t) = false := by simp; omega
  go_enter Tryz.func13, Tryz.ntmps13
  go_wp2_with fail
  refine bodyPost_ret (v := .tuple #[.pointer (some ⟨w.heap.size, 0, none⟩), .int .i64 0]) (by simp [results, Tryz.results13, go_sem]) rfl ⟨w.heap.size, rfl, (Below.refl _ _).alloc (Nat.le_refl _) _⟩
theorem code_of_answer (W : World) : (Instr.field 45 (.agg #[.int .i64 11, .int .i64 0, .int .i64 0, .int .i64 0, .int .i64 0, .int .i64 0, .int .i64 0, .int .i64 0, .string ⟨#[]⟩, .slice none 0 0]) 0).run Tryz.prog W = .ok (.int .i64 11) W := by kernel_rfl
set_option maxHeartbeats 2000000 in
theorem law_hallNew (t d : Int) (q : ReqD) (cv : Value) (zs : List (Int × Int)) (w : World) (hs : IsSl w 2 16 cv zs.length (zs.flatMap encCell)) :
    Calls Tryz.prog 4 #[.int .i64 t, .int .i64 d, .agg (q.cells cv).toArray] w fun e w' => e = .returned (.bool true) ∧ Below w.heap.size w w' := by
  have hreq := fun W (h : IsSl W 2 16 cv zs.length (zs.flatMap encCell)) => request_any q cv zs W h
  have hsl : ∀ W, Below w.heap.size w W → IsSl W 2 16 cv zs.length (zs.flatMap encCell) := fun W h => by
    obtain ⟨a, cap, e, hs⟩ := hs
    exact ⟨a, cap, e, hs.below (by omega) h⟩
  obtain ⟨v, n, o, b, l, m⟩ := q
  show Calls Tryz.prog 4 #[.int .i64 t, .int .i64 d, .agg #[.int .i64 v, .string n, .string o, .int .i64 b, .int .i64 l, .int .i64 m, cv]] w _
  change ∀ W, _ → Calls Tryz.prog 15 #[.agg #[.int .i64 v, .string n, .string o, .int .i64 b, .int .i64 l, .int .i64 m, cv]] W _ at hreq
  have HR := Lib.hid hreq
  have HSL := Lib.hid hsl
  clear hreq hsl hs
  have hA := fun W => arenaNew_any 100 W (by omega)
  have HA := Lib.hid hA
  clear hA
  by_cases hr : 0 ≤ t ∧ t < 64
  · obtain ⟨h0, h1⟩ := hr
    have h2 : decide (t < 0) = false := by simp; omega
    have h3 : decide (64 ≤ t) = false := by simp; omega
    go_enter Tryz.func4, Tryz.ntmps4
    go_wp2_with fail
    refine (HA.out _).mono ?_
    rintro e w2 ⟨arr, rfl, hb, -⟩
    have c0 := hb.block w.heap.size (by simp)
    rw [blk_last w _ rfl] at c0
    have hB2 := ((Below.refl w.heap.size w).alloc (Nat.le_refl _) (.cells #[.int .i64 v, .string n, .string o, .int .i64 b, .int .i64 l, .int .i64 m, cv] 35)).trans (hb.mono (by simp))
    have hz2 := hb.size
    clear hb
    go_wp2_with fail
    refine (hallNew_ok _ t d _ h0 h1).mono ?_
    rintro e w3 ⟨g, rfl, hb3⟩
    have hB3 := hB2.trans (hb3.mono hB2.size)
    have c1 := hb3.block w.heap.size (lt_of_block c0)
    rw [c0] at c1
    clear hB2 hb3 hz2 c0
    go_wp2_with fail
    refine (hallNew_nil d _).mono ?_
    rintro e w4 ⟨rfl, rfl⟩
    have x0 := Joins.cell_of_block c1 0
    have x1 := Joins.cell_of_block c1 1
    have x2 := Joins.cell_of_block c1 2
    have x3 := Joins.cell_of_block c1 3
    have x4 := Joins.cell_of_block c1 4
    have x5 := Joins.cell_of_block c1 5
    have x6 := Joins.cell_of_block c1 6
    simp at x0 x1 x2 x3 x4 x5 x6
    clear c1
    go_wp2_with fail
    refine (HR.out _ (HSL.out _ hB3)).mono ?_
    rintro e w5 ⟨u, rfl, hb5⟩
    have hB5 := hB3.trans (hb5.mono hB3.size)
    clear hb5 hB3 x0 x1 x2 x3 x4 x5 x6
    go_wp2_with fail
    refine (hdo_nil _ _ rfl).mono ?_
    rintro e w6 ⟨rfl, hb6⟩
    have hB6 := hB5.trans (hb6.mono hB5.size)
    clear hb6 hB5
    have hfld := code_of_answer
    go_wp2_with fail
    go_ret
    exact ⟨rfl, hB6⟩
  · have ht : t < 0 ∨ 64 ≤ t := by omega
    have HT := Lib.hid ht
    clear ht
    by_cases h0 : t < 0
    · have h2 : decide (t < 0) = true := by simp [h0]
      go_enter Tryz.func4, Tryz.ntmps4
      go_wp2_with fail
      refine (HA.out _).mono ?_
      rintro e w2 ⟨arr, rfl, hb, -⟩
      have c0 := hb.block w.heap.size (by simp)
      rw [blk_last w _ rfl] at c0
      have hB2 := ((Below.refl w.heap.size w).alloc (Nat.le_refl _) (.cells #[.int .i64 v, .string n, .string o, .int .i64 b, .int .i64 l, .int .i64 m, cv] 35)).trans (hb.mono (by simp))
      have hz2 := hb.size
      clear hb
      go_wp2_with fail
      refine (hallNew_range _ t d _ HT.out).mono ?_
      rintro e w3 ⟨rfl, rfl⟩
      have hB3 := hB2
      have c1 := c0
      clear hB2 hz2 c0
      go_wp2_with fail
      refine (hallNew_nil d _).mono ?_
      rintro e w4 ⟨rfl, rfl⟩
      have x0 := Joins.cell_of_block c1 0
      have x1 := Joins.cell_of_block c1 1
      have x2 := Joins.cell_of_block c1 2
      have x3 := Joins.cell_of_block c1 3
      have x4 := Joins.cell_of_block c1 4
      have x5 := Joins.cell_of_block c1 5
      have x6 := Joins.cell_of_block c1 6
      simp at x0 x1 x2 x3 x4 x5 x6
      clear c1
      go_wp2_with fail
      refine (HR.out _ (HSL.out _ hB3)).mono ?_
      rintro e w5 ⟨u, rfl, hb5⟩
      have hB5 := hB3.trans (hb5.mono hB3.size)
      clear hb5 hB3 x0 x1 x2 x3 x4 x5 x6
      go_wp2_with fail
      refine (hdo_nil _ _ rfl).mono ?_
      rintro e w6 ⟨rfl, hb6⟩
      have hB6 := hB5.trans (hb6.mono hB5.size)
      clear hb6 hB5
      have hfld := code_of_answer
      go_wp2_with fail
      go_ret
      exact ⟨rfl, hB6⟩
    · have h2 : decide (t < 0) = false := by simp; omega
      have h3 : decide (64 ≤ t) = true := by simp; omega
      have h4 : 0 ≤ t := by omega
      have h5 : 64 ≤ t := by omega
      clear hr
      go_enter Tryz.func4, Tryz.ntmps4
      go_wp2_with fail
      refine (HA.out _).mono ?_
      rintro e w2 ⟨arr, rfl, hb, -⟩
      have c0 := hb.block w.heap.size (by simp)
      rw [blk_last w _ rfl] at c0
      have hB2 := ((Below.refl w.heap.size w).alloc (Nat.le_refl _) (.cells #[.int .i64 v, .string n, .string o, .int .i64 b, .int .i64 l, .int .i64 m, cv] 35)).trans (hb.mono (by simp))
      have hz2 := hb.size
      clear hb
      go_wp2_with fail
      refine (hallNew_range _ t d _ HT.out).mono ?_
      rintro e w3 ⟨rfl, rfl⟩
      have hB3 := hB2
      have c1 := c0
      clear hB2 hz2 c0
      go_wp2_with fail
      refine (hallNew_nil d _).mono ?_
      rintro e w4 ⟨rfl, rfl⟩
      have x0 := Joins.cell_of_block c1 0
      have x1 := Joins.cell_of_block c1 1
      have x2 := Joins.cell_of_block c1 2
      have x3 := Joins.cell_of_block c1 3
      have x4 := Joins.cell_of_block c1 4
      have x5 := Joins.cell_of_block c1 5
      have x6 := Joins.cell_of_block c1 6
      simp at x0 x1 x2 x3 x4 x5 x6
      clear c1
      go_wp2_with fail
      refine (HR.out _ (HSL.out _ hB3)).mono ?_
      rintro e w5 ⟨u, rfl, hb5⟩
      have hB5 := hB3.trans (hb5.mono hB3.size)
      clear hb5 hB3 x0 x1 x2 x3 x4 x5 x6
      go_wp2_with fail
      refine (hdo_nil _ _ rfl).mono ?_
      rintro e w6 ⟨rfl, hb6⟩
      have hB6 := hB5.trans (hb6.mono hB5.size)
      clear hb6 hB5
      have hfld := code_of_answer
      go_wp2_with fail
      go_ret
      exact ⟨rfl, hB6⟩
end Go.Proofs.YtfnephepcinigaaGreatDoor
