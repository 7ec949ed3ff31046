/-
  The document's Bounds; a list of cells copied; the law on boxes.
-/
import Derived.Test.YtdmamecfmfhlmaaBoxes
import Derived.Laws.AppendOwnNone
namespace Go.Proofs.Ytdmamecfmfhlmaa
set_option maxRecDepth 100000
open Go.RowKit

def boxR (zs : List (Int × Int)) (k : Nat) : BoxD := if k = 0 then ⟨0, 0, 0, 0⟩ else boxTo zs k
theorem boxR_one {zs : List (Int × Int)} {c : Int × Int} (h : zs[0]? = some c) : boxR zs 1 = boxFrom c := by simp [boxR, boxTo_one h]
theorem boxR_succ {zs : List (Int × Int)} {k : Nat} {c : Int × Int} (hk : 0 < k) (h : zs[k]? = some c) : boxR zs (k + 1) = boxStep (boxR zs k) c := by
  have h1 : k ≠ 0 := by omega
  simp [boxR, h1, boxTo_succ h]
theorem boxR_all (zs : List (Int × Int)) : boxR zs zs.length = boxF zs := by
  unfold boxR boxF
  split
  · rename_i h
    have : zs = [] := List.eq_nil_of_length_eq_zero h
    subst this; rfl
  · rfl

set_option maxRecDepth 100000 in
set_option maxHeartbeats 16000000 in
theorem refBounds_any (zs : List (Int × Int)) (a : Option Addr) (cap : Nat) (w : World) (hs : Sl w 2 16 a zs.length cap (zs.flatMap encCell)) :
    Calls Try.prog 22 #[.slice a zs.length cap] w (Boxed w zs) := by
  have hn := hs.wide
  obtain ⟨n, hN⟩ : ∃ n, n = zs.length := ⟨_, rfl⟩
  rw [← hN] at hn ⊢
  have HN := Lib.hid hN
  clear hN
  go_enter Try.func22, Try.ntmps22
  go_wp2
  go_loopw [9] (fun i wr => ∃ k, k ≤ n ∧ i = .int .i64 (k : Nat) ∧ BoxInv w zs (boxR zs k) wr) (fun i _ => n - (intOf i).toNat)
  case atStart =>
    refine ⟨0, Nat.zero_le _, rfl, ⟨?_, ?_, ?_⟩⟩
    · exact ((Below.refl _ _).alloc (Nat.le_refl _) _).alloc (by simp) _
    · exact blk_alloc (blk_last w _ rfl) _
    · exact blk_last _ _ (by simp)
  case round =>
    obtain ⟨k, hk, rfl, hI⟩ := hrel
    by_cases hlt : k < n
    · obtain ⟨kd, hkd⟩ : ∃ kd, zs[k]? = some kd := ⟨zs[k]'(by rw [← HN.out]; exact hlt), by simp⟩
      obtain ⟨b, o, rfl, hrow⟩ := hs.row (by rw [← HN.out]; omega)
      have hb := hs.lt (by rw [← HN.out]; omega) (by omega)
      have e0 := hrow _ _ (flat_at (k := 2) (enc := encCell) (by omega) (fun _ => rfl) zs k 0 kd hkd (by omega))
      have e1 := hrow _ _ (flat_at (k := 2) (enc := encCell) (by omega) (fun _ => rfl) zs k 1 kd hkd (by omega))
      have g0 : wr.cell? ⟨b, o + k * 2, none⟩ = some (.int .i64 kd.1) := by rw [hI.below.cell hb]; exact e0
      have g1 : wr.cell? ⟨b, o + k * 2 + 1, none⟩ = some (.int .i64 kd.2) := by rw [hI.below.cell hb]; exact e1
      obtain ⟨B, hB⟩ : ∃ B, B = boxR zs k := ⟨_, rfl⟩
      rw [← hB] at hI
      have d0 : wr.cell? ⟨w.heap.size + 1, 0, none⟩ = some (.int .i64 B.x0) := Joins.cell_of_block hI.b1 0
      have d1 : wr.cell? ⟨w.heap.size + 1, 1, none⟩ = some (.int .i64 B.y0) := Joins.cell_of_block hI.b1 1
      have d2 : wr.cell? ⟨w.heap.size + 1, 2, none⟩ = some (.int .i64 B.x1) := Joins.cell_of_block hI.b1 2
      have d3 : wr.cell? ⟨w.heap.size + 1, 3, none⟩ = some (.int .i64 B.y1) := Joins.cell_of_block hI.b1 3
      have f0 : wr.frozen? ⟨w.heap.size + 1, 0, none⟩ = false := Joins.unfrozen_of_block hI.b1 0
      have f1 : wr.frozen? ⟨w.heap.size + 1, 1, none⟩ = false := Joins.unfrozen_of_block hI.b1 1
      have f2 : wr.frozen? ⟨w.heap.size + 1, 2, none⟩ = false := Joins.unfrozen_of_block hI.b1 2
      have f3 : wr.frozen? ⟨w.heap.size + 1, 3, none⟩ = false := Joins.unfrozen_of_block hI.b1 3
      have z2 : w.heap.size + 1 < wr.heap.size := lt_of_block hI.b1
      clear e0 e1 hrow
      have HB := Lib.hid hB
      have Hkd := Lib.hid hkd
      clear hkd hB
      by_cases hk0 : k = 0
      · subst hk0
        have g0' : wr.cell? ⟨b, o, none⟩ = some (.int .i64 kd.1) := by simpa using g0
        have g1' : wr.cell? ⟨b, o + 1, none⟩ = some (.int .i64 kd.2) := by simpa using g1
        clear g0 g1
        go_wp2_with fail
        go_roundw
        case rel =>
          refine ⟨1, by omega, by go_num, ?_⟩
          rw [boxR_one Hkd.out]
          refine ⟨?_, ?_, ?_⟩
          · exact ((((hI.below.setCell (by simp) _).setCell (by simp) _).setCell (by simp) _).setCell (by simp) _).alloc (by simp; omega) _
          · exact blk_alloc (blk_set (blk_set (blk_set (blk_set hI.b0 (by simp) _) (by simp) _) (by simp) _) (by simp) _) _
          · exact blk_alloc (Joins.block_setCell (Joins.block_setCell (Joins.block_setCell (Joins.block_setCell hI.b1 _) _) _) _) _
        case measure => simp [intOf]; omega
      · have hkp : 0 < k := by omega
        have hkz : ((k : Int) == 0) = false := by simp; omega
        by_cases h0 : kd.1 < B.x0 <;> by_cases h1 : kd.2 < B.y0 <;> by_cases h2 : B.x1 < kd.1 <;> by_cases h3 : B.y1 < kd.2
        · go_wp2_with fail
          go_roundw
          case rel =>
            refine ⟨k + 1, by omega, by go_num, ?_⟩
            rw [boxR_succ hkp Hkd.out, ← HB.out, boxStep_eq]
            simp only [minI, maxI, h0, h1, h2, h3, if_true, if_false]
            exact ⟨((((hI.below.setCell (by simp) _).setCell (by simp) _).setCell (by simp) _).setCell (by simp) _).alloc (by simp; omega) _, blk_alloc (blk_set (blk_set (blk_set (blk_set hI.b0 (by simp) _) (by simp) _) (by simp) _) (by simp) _) _, blk_alloc (Joins.block_setCell (Joins.block_setCell (Joins.block_setCell (Joins.block_setCell hI.b1 _) _) _) _) _⟩
          case measure => simp [intOf]; omega
        · go_wp2_with fail
          go_roundw
          case rel =>
            refine ⟨k + 1, by omega, by go_num, ?_⟩
            rw [boxR_succ hkp Hkd.out, ← HB.out, boxStep_eq]
            simp only [minI, maxI, h0, h1, h2, h3, if_true, if_false]
            exact ⟨(((hI.below.setCell (by simp) _).setCell (by simp) _).setCell (by simp) _).alloc (by simp; omega) _, blk_alloc (blk_set (blk_set (blk_set hI.b0 (by simp) _) (by simp) _) (by simp) _) _, blk_alloc (Joins.block_setCell (Joins.block_setCell (Joins.block_setCell hI.b1 _) _) _) _⟩
          case measure => simp [intOf]; omega
        · go_wp2_with fail
          go_roundw
          case rel =>
            refine ⟨k + 1, by omega, by go_num, ?_⟩
            rw [boxR_succ hkp Hkd.out, ← HB.out, boxStep_eq]
            simp only [minI, maxI, h0, h1, h2, h3, if_true, if_false]
            exact ⟨(((hI.below.setCell (by simp) _).setCell (by simp) _).setCell (by simp) _).alloc (by simp; omega) _, blk_alloc (blk_set (blk_set (blk_set hI.b0 (by simp) _) (by simp) _) (by simp) _) _, blk_alloc (Joins.block_setCell (Joins.block_setCell (Joins.block_setCell hI.b1 _) _) _) _⟩
          case measure => simp [intOf]; omega
        · go_wp2_with fail
          go_roundw
          case rel =>
            refine ⟨k + 1, by omega, by go_num, ?_⟩
            rw [boxR_succ hkp Hkd.out, ← HB.out, boxStep_eq]
            simp only [minI, maxI, h0, h1, h2, h3, if_true, if_false]
            exact ⟨((hI.below.setCell (by simp) _).setCell (by simp) _).alloc (by simp; omega) _, blk_alloc (blk_set (blk_set hI.b0 (by simp) _) (by simp) _) _, blk_alloc (Joins.block_setCell (Joins.block_setCell hI.b1 _) _) _⟩
          case measure => simp [intOf]; omega
        · go_wp2_with fail
          go_roundw
          case rel =>
            refine ⟨k + 1, by omega, by go_num, ?_⟩
            rw [boxR_succ hkp Hkd.out, ← HB.out, boxStep_eq]
            simp only [minI, maxI, h0, h1, h2, h3, if_true, if_false]
            exact ⟨(((hI.below.setCell (by simp) _).setCell (by simp) _).setCell (by simp) _).alloc (by simp; omega) _, blk_alloc (blk_set (blk_set (blk_set hI.b0 (by simp) _) (by simp) _) (by simp) _) _, blk_alloc (Joins.block_setCell (Joins.block_setCell (Joins.block_setCell hI.b1 _) _) _) _⟩
          case measure => simp [intOf]; omega
        · go_wp2_with fail
          go_roundw
          case rel =>
            refine ⟨k + 1, by omega, by go_num, ?_⟩
            rw [boxR_succ hkp Hkd.out, ← HB.out, boxStep_eq]
            simp only [minI, maxI, h0, h1, h2, h3, if_true, if_false]
            exact ⟨((hI.below.setCell (by simp) _).setCell (by simp) _).alloc (by simp; omega) _, blk_alloc (blk_set (blk_set hI.b0 (by simp) _) (by simp) _) _, blk_alloc (Joins.block_setCell (Joins.block_setCell hI.b1 _) _) _⟩
          case measure => simp [intOf]; omega
        · go_wp2_with fail
          go_roundw
          case rel =>
            refine ⟨k + 1, by omega, by go_num, ?_⟩
            rw [boxR_succ hkp Hkd.out, ← HB.out, boxStep_eq]
            simp only [minI, maxI, h0, h1, h2, h3, if_true, if_false]
            exact ⟨((hI.below.setCell (by simp) _).setCell (by simp) _).alloc (by simp; omega) _, blk_alloc (blk_set (blk_set hI.b0 (by simp) _) (by simp) _) _, blk_alloc (Joins.block_setCell (Joins.block_setCell hI.b1 _) _) _⟩
          case measure => simp [intOf]; omega
        · go_wp2_with fail
          go_roundw
          case rel =>
            refine ⟨k + 1, by omega, by go_num, ?_⟩
            rw [boxR_succ hkp Hkd.out, ← HB.out, boxStep_eq]
            simp only [minI, maxI, h0, h1, h2, h3, if_true, if_false]
            exact ⟨(hI.below.setCell (by simp) _).alloc (by simp; omega) _, blk_alloc (blk_set hI.b0 (by simp) _) _, blk_alloc (Joins.block_setCell hI.b1 _) _⟩
          case measure => simp [intOf]; omega
        · go_wp2_with fail
          go_roundw
          case rel =>
            refine ⟨k + 1, by omega, by go_num, ?_⟩
            rw [boxR_succ hkp Hkd.out, ← HB.out, boxStep_eq]
            simp only [minI, maxI, h0, h1, h2, h3, if_true, if_false]
            exact ⟨(((hI.below.setCell (by simp) _).setCell (by simp) _).setCell (by simp) _).alloc (by simp; omega) _, blk_alloc (blk_set (blk_set (blk_set hI.b0 (by simp) _) (by simp) _) (by simp) _) _, blk_alloc (Joins.block_setCell (Joins.block_setCell (Joins.block_setCell hI.b1 _) _) _) _⟩
          case measure => simp [intOf]; omega
        · go_wp2_with fail
          go_roundw
          case rel =>
            refine ⟨k + 1, by omega, by go_num, ?_⟩
            rw [boxR_succ hkp Hkd.out, ← HB.out, boxStep_eq]
            simp only [minI, maxI, h0, h1, h2, h3, if_true, if_false]
            exact ⟨((hI.below.setCell (by simp) _).setCell (by simp) _).alloc (by simp; omega) _, blk_alloc (blk_set (blk_set hI.b0 (by simp) _) (by simp) _) _, blk_alloc (Joins.block_setCell (Joins.block_setCell hI.b1 _) _) _⟩
          case measure => simp [intOf]; omega
        · go_wp2_with fail
          go_roundw
          case rel =>
            refine ⟨k + 1, by omega, by go_num, ?_⟩
            rw [boxR_succ hkp Hkd.out, ← HB.out, boxStep_eq]
            simp only [minI, maxI, h0, h1, h2, h3, if_true, if_false]
            exact ⟨((hI.below.setCell (by simp) _).setCell (by simp) _).alloc (by simp; omega) _, blk_alloc (blk_set (blk_set hI.b0 (by simp) _) (by simp) _) _, blk_alloc (Joins.block_setCell (Joins.block_setCell hI.b1 _) _) _⟩
          case measure => simp [intOf]; omega
        · go_wp2_with fail
          go_roundw
          case rel =>
            refine ⟨k + 1, by omega, by go_num, ?_⟩
            rw [boxR_succ hkp Hkd.out, ← HB.out, boxStep_eq]
            simp only [minI, maxI, h0, h1, h2, h3, if_true, if_false]
            exact ⟨(hI.below.setCell (by simp) _).alloc (by simp; omega) _, blk_alloc (blk_set hI.b0 (by simp) _) _, blk_alloc (Joins.block_setCell hI.b1 _) _⟩
          case measure => simp [intOf]; omega
        · go_wp2_with fail
          go_roundw
          case rel =>
            refine ⟨k + 1, by omega, by go_num, ?_⟩
            rw [boxR_succ hkp Hkd.out, ← HB.out, boxStep_eq]
            simp only [minI, maxI, h0, h1, h2, h3, if_true, if_false]
            exact ⟨((hI.below.setCell (by simp) _).setCell (by simp) _).alloc (by simp; omega) _, blk_alloc (blk_set (blk_set hI.b0 (by simp) _) (by simp) _) _, blk_alloc (Joins.block_setCell (Joins.block_setCell hI.b1 _) _) _⟩
          case measure => simp [intOf]; omega
        · go_wp2_with fail
          go_roundw
          case rel =>
            refine ⟨k + 1, by omega, by go_num, ?_⟩
            rw [boxR_succ hkp Hkd.out, ← HB.out, boxStep_eq]
            simp only [minI, maxI, h0, h1, h2, h3, if_true, if_false]
            exact ⟨(hI.below.setCell (by simp) _).alloc (by simp; omega) _, blk_alloc (blk_set hI.b0 (by simp) _) _, blk_alloc (Joins.block_setCell hI.b1 _) _⟩
          case measure => simp [intOf]; omega
        · go_wp2_with fail
          go_roundw
          case rel =>
            refine ⟨k + 1, by omega, by go_num, ?_⟩
            rw [boxR_succ hkp Hkd.out, ← HB.out, boxStep_eq]
            simp only [minI, maxI, h0, h1, h2, h3, if_true, if_false]
            exact ⟨(hI.below.setCell (by simp) _).alloc (by simp; omega) _, blk_alloc (blk_set hI.b0 (by simp) _) _, blk_alloc (Joins.block_setCell hI.b1 _) _⟩
          case measure => simp [intOf]; omega
        · go_wp2_with fail
          go_roundw
          case rel =>
            refine ⟨k + 1, by omega, by go_num, ?_⟩
            rw [boxR_succ hkp Hkd.out, ← HB.out, boxStep_eq]
            simp only [minI, maxI, h0, h1, h2, h3, if_true, if_false]
            exact ⟨hI.below.alloc (by omega) _, blk_alloc hI.b0 _, blk_alloc hI.b1 _⟩
          case measure => simp [intOf]; omega
    · obtain rfl : k = n := by omega
      obtain ⟨B, hB⟩ : ∃ B, B = boxR zs k := ⟨_, rfl⟩
      rw [← hB] at hI
      have d0 : wr.cell? ⟨w.heap.size + 1, 0, none⟩ = some (.int .i64 B.x0) := Joins.cell_of_block hI.b1 0
      have d1 : wr.cell? ⟨w.heap.size + 1, 1, none⟩ = some (.int .i64 B.y0) := Joins.cell_of_block hI.b1 1
      have d2 : wr.cell? ⟨w.heap.size + 1, 2, none⟩ = some (.int .i64 B.x1) := Joins.cell_of_block hI.b1 2
      have d3 : wr.cell? ⟨w.heap.size + 1, 3, none⟩ = some (.int .i64 B.y1) := Joins.cell_of_block hI.b1 3
      have f0 : wr.frozen? ⟨w.heap.size, 0, none⟩ = false := Joins.unfrozen_of_block hI.b0 0
      have f1 : wr.frozen? ⟨w.heap.size, 1, none⟩ = false := Joins.unfrozen_of_block hI.b0 1
      have f2 : wr.frozen? ⟨w.heap.size, 2, none⟩ = false := Joins.unfrozen_of_block hI.b0 2
      have f3 : wr.frozen? ⟨w.heap.size, 3, none⟩ = false := Joins.unfrozen_of_block hI.b0 3
      have p0 : wr.cell? ⟨w.heap.size, 0, none⟩ = some (.int .i64 0) := Joins.cell_of_block hI.b0 0
      have p1 : wr.cell? ⟨w.heap.size, 1, none⟩ = some (.int .i64 0) := Joins.cell_of_block hI.b0 1
      have p2 : wr.cell? ⟨w.heap.size, 2, none⟩ = some (.int .i64 0) := Joins.cell_of_block hI.b0 2
      have p3 : wr.cell? ⟨w.heap.size, 3, none⟩ = some (.int .i64 0) := Joins.cell_of_block hI.b0 3
      have HB := Lib.hid hB
      clear hB
      go_wp2
      refine bodyPost_ret (v := .tuple #[.agg #[.int .i64 B.x0, .int .i64 B.y0, .int .i64 B.x1, .int .i64 B.y1], .bool (decide (0 < k))]) (by simp [results, Try.results22, go_sem, p0, p1, p2, p3]) rfl ⟨?_, ?_⟩
      · have h1 := HB.out
        have h2 := HN.out
        rw [h2, boxR_all] at h1
        subst h1
        subst h2
        rfl
      · exact (((hI.below.setCell (by simp) _).setCell (by simp) _).setCell (by simp) _).setCell (by simp) _
end Go.Proofs.Ytdmamecfmfhlmaa
