/-
  The program's reading of any line.
-/
import Derived.Test.YtdmamecfmfhlmaaGreatDoorZSpeechWritesRead
namespace Go.Proofs.YtdmamecfmfhlmaaGreatDoor
set_option maxRecDepth 100000
open Go.RowKit

set_option maxHeartbeats 4000000 in
theorem read_long (C : List UInt8) (w : World) (hC : 6000 < C.length) :
    Calls Tryz.prog 9 #[.string (txt C)] w (ReadsTo w (askF C)) := by
  have hx : askF C = (1, Ask.no) := by unfold askF; rw [if_pos hC]
  obtain ⟨S, hS⟩ : ∃ S, S = txt C := ⟨_, rfl⟩
  have hsz : S.size = C.length := by rw [hS, txt_size]
  rw [← hS]
  have HX := Lib.hid hx
  have t1 : decide ((6000 : Int) < (C.length : Int)) = true := decide_eq_true (by omega)
  clear hS hx
  go_enter Tryz.func9, Tryz.ntmps9
  go_upto_region 1 with fail
  refine wp_namedR ?_
  intro W0 hW0
  have b0 : W0.heap[w.heap.size]? = some (.cells #[.int .i64 0, .string ⟨#[]⟩, .string ⟨#[]⟩, .int .i64 0, .int .i64 0, .int .i64 0, .slice none 0 0] 26 (0, 0)) := by rw [hW0]; exact blk_last w _ rfl
  have hB0 : Below w.heap.size w W0 := by rw [hW0]; exact (Below.refl _ _).alloc (Nat.le_refl _) _
  have HB := Lib.hid b0
  have HB0 := Lib.hid hB0
  obtain ⟨⟨a0, a1, a2, a3, a4, a5, a6⟩, af⟩ := seven b0
  have f0 := af 0; have f1 := af 1; have f2 := af 2; have f3 := af 3; have f4 := af 4; have f5 := af 5; have f6 := af 6
  clear hW0 b0 hB0 af
  go_wp2_with fail
  obtain ⟨⟨p0, p1, p2, p3, p4, p5, p6⟩, -⟩ := seven (set7_blk (.int .i64 0) (.string ⟨#[]⟩) (.string ⟨#[]⟩) (.int .i64 0) (.int .i64 0) (.int .i64 0) (.slice none 0 0) HB.out)
  simp only [set7] at p0 p1 p2 p3 p4 p5 p6
  have hB9 := (set7_keeps (F := fun i => w.heap.size ≤ i) (g := w.heap.size) (.int .i64 0) (.string ⟨#[]⟩) (.string ⟨#[]⟩) (.int .i64 0) (.int .i64 0) (.int .i64 0) (.slice none 0 0) (Keeps.of_below HB0.out) (fun h => absurd h (Nat.lt_irrefl _))).toBelow (fun i h => h) (Nat.le_refl _)
  exact bodyPost_ret (v := .tuple #[.agg #[.int .i64 0, .string ⟨#[]⟩, .string ⟨#[]⟩, .int .i64 0, .int .i64 0, .int .i64 0, .slice none 0 0], .int .i64 1]) (by simp [results, Tryz.results9, go_sem, p0, p1, p2, p3, p4, p5, p6]) rfl (reads_no hB9 HX.out)
theorem read_any_line (C : List UInt8) (w : World) : Calls Tryz.prog 9 #[.string (txt C)] w (ReadsTo w (askF C)) := by
  by_cases h : C.length ≤ 6000
  · exact read_short C w h
  · exact read_long C w (by omega)
end Go.Proofs.YtdmamecfmfhlmaaGreatDoor
