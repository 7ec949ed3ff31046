/-
  The least box around cells: what plane.Bounds and the document's Bounds answer; The copy of a list of cells; Small laws of memory: make, copy inside a drawn region.
-/
import Derived.Laws.AppendOwnNone
import Derived.Laws.MakeOwn
import Derived.Laws.OwnMore
import Derived.Laws.Entries
import Derived.Deep.RegionLaw
import Derived.Test.YtabhpbkkjijfjaaZLeapSteps1
namespace Go.Proofs.Ytabhpbkkjijfjaa
set_option maxRecDepth 100000
open Go.RowKit

structure BoxD where
  x0 : Int
  y0 : Int
  x1 : Int
  y1 : Int
def boxStep (b : BoxD) (c : Int × Int) : BoxD := ⟨min b.x0 c.1, min b.y0 c.2, max b.x1 c.1, max b.y1 c.2⟩
def minI (a b : Int) : Int := if a < b then a else b
def maxI (a b : Int) : Int := if b < a then a else b
theorem ite_min (a b : Int) : (if a < b then a else b) = minI a b := rfl
theorem ite_max (a b : Int) : (if b < a then a else b) = maxI a b := rfl
theorem boxStep_eq (b : BoxD) (c : Int × Int) : boxStep b c = ⟨minI c.1 b.x0, minI c.2 b.y0, maxI c.1 b.x1, maxI c.2 b.y1⟩ := by
  simp only [boxStep, minI, maxI, BoxD.mk.injEq]
  refine ⟨?_, ?_, ?_, ?_⟩ <;> split <;> omega
def boxFrom (c : Int × Int) : BoxD := ⟨c.1, c.2, c.1, c.2⟩
/-- The box of the first k cells of a list. -/
def boxTo (zs : List (Int × Int)) (k : Nat) : BoxD := match zs with
  | [] => ⟨0, 0, 0, 0⟩
  | c :: r => ((c :: r).take k).foldl boxStep (boxFrom c)
def boxF (zs : List (Int × Int)) : BoxD := boxTo zs zs.length
def encBox (b : BoxD) : Array Value := #[.int .i64 b.x0, .int .i64 b.y0, .int .i64 b.x1, .int .i64 b.y1]
theorem boxTo_zero (c : Int × Int) (r : List (Int × Int)) : boxTo (c :: r) 0 = boxFrom c := rfl
theorem boxTo_succ {zs : List (Int × Int)} {k : Nat} {c : Int × Int} (h : zs[k]? = some c) : boxTo zs (k + 1) = boxStep (boxTo zs k) c := by
  match zs with
  | [] => simp at h
  | d :: r => simp only [boxTo]; rw [List.take_add_one, h]; simp [List.foldl_append]
theorem boxTo_one {zs : List (Int × Int)} {c : Int × Int} (h : zs[0]? = some c) : boxTo zs 1 = boxFrom c := by
  match zs with
  | [] => simp at h
  | d :: r => simp at h; subst h; simp [boxTo, boxStep, boxFrom]

structure BoxInv (w : World) (zs : List (Int × Int)) (b : BoxD) (wr : World) : Prop where
  below : Below w.heap.size w wr
  b0 : wr.heap[w.heap.size]? = some (.cells #[.int .i64 0, .int .i64 0, .int .i64 0, .int .i64 0] 66 (0, 0))
  b1 : wr.heap[w.heap.size + 1]? = some (.cells (encBox b) 66 (0, 0))

def Boxed (w : World) (zs : List (Int × Int)) (e : Ending) (w' : World) : Prop :=
  e = .returned (.tuple #[.agg (encBox (boxF zs)), .bool (decide (0 < zs.length))]) ∧ Below w.heap.size w w'

set_option maxRecDepth 100000 in
set_option maxHeartbeats 1000000 in
theorem bounds_any (zs : List (Int × Int)) (a : Option Addr) (cap : Nat) (w : World) (hs : Sl w 2 16 a zs.length cap (zs.flatMap encCell)) :
    Calls Try.prog 25 #[.slice a zs.length cap] w (Boxed w zs) := by
  have hn := hs.wide
  match hz : zs with
  | [] =>
    clear hs hn
    go_enter Try.func25, Try.ntmps25
    go_wp2
    exact bodyPost_ret (v := .tuple #[.agg #[.int .i64 0, .int .i64 0, .int .i64 0, .int .i64 0], .bool false]) (by simp [results, Try.results25, go_sem]) rfl ⟨rfl, (Below.refl _ _).alloc (Nat.le_refl _) _⟩
  | c :: r =>
    obtain ⟨b, o, rfl, hrow⟩ := hs.row (by simp)
    have hb := hs.lt (by simp) (by omega)
    have e0 := hrow _ _ (flat_at (k := 2) (enc := encCell) (by omega) (fun _ => rfl) (c :: r) 0 0 c rfl (by omega))
    have e1 := hrow _ _ (flat_at (k := 2) (enc := encCell) (by omega) (fun _ => rfl) (c :: r) 0 1 c rfl (by omega))
    simp only [Nat.zero_mul, Nat.zero_add, Nat.add_zero] at e0 e1
    have e0 : w.cell? ⟨b, o, none⟩ = some (.int .i64 c.1) := e0
    have e1 : w.cell? ⟨b, o + 1, none⟩ = some (.int .i64 c.2) := e1
    have hlen : (0 : Int) < ((c :: r).length : Int) := by simp
    have hne : (((c :: r).length : Int) == 0) = false := by simp; omega
    obtain ⟨n, hN⟩ : ∃ n, n = (c :: r).length := ⟨_, rfl⟩
    rw [← hN] at hlen hne hn ⊢
    have HN := Lib.hid hN
    clear hN
    go_enter Try.func25, Try.ntmps25
    go_wp2
    go_region
    go_wp2
    go_loopw [30] (fun i wr => ∃ k, k ≤ n ∧ i = .int .i64 (k : Nat) ∧ BoxInv w (c :: r) (boxTo (c :: r) k) wr) (fun i _ => n - (intOf i).toNat)
    case atStart =>
      refine ⟨0, Nat.zero_le _, rfl, ⟨?_, ?_, ?_⟩⟩
      · exact (((Below.refl _ _).alloc (Nat.le_refl _) _).alloc (by simp) _).drew
      · exact blk_alloc (blk_last w _ rfl) _
      · exact blk_last _ _ (by simp)
    case round =>
      obtain ⟨k, hk, rfl, hI⟩ := hrel
      by_cases hlt : k < n
      · obtain ⟨kd, hkd⟩ : ∃ kd, (c :: r)[k]? = some kd := ⟨(c :: r)[k]'(by rw [← HN.out]; exact hlt), by simp⟩
        have e0 := hrow _ _ (flat_at (k := 2) (enc := encCell) (by omega) (fun _ => rfl) (c :: r) k 0 kd hkd (by omega))
        have e1 := hrow _ _ (flat_at (k := 2) (enc := encCell) (by omega) (fun _ => rfl) (c :: r) k 1 kd hkd (by omega))
        have g0 : wr.cell? ⟨b, o + k * 2, none⟩ = some (.int .i64 kd.1) := by rw [hI.below.cell hb]; exact e0
        have g1 : wr.cell? ⟨b, o + k * 2 + 1, none⟩ = some (.int .i64 kd.2) := by rw [hI.below.cell hb]; exact e1
        obtain ⟨B, hB⟩ : ∃ B, B = boxTo (c :: r) k := ⟨_, rfl⟩
        rw [← hB] at hI
        have d0 : wr.cell? ⟨w.heap.size + 1, 0, none⟩ = some (.int .i64 B.x0) := Joins.cell_of_block hI.b1 0
        have d1 : wr.cell? ⟨w.heap.size + 1, 1, none⟩ = some (.int .i64 B.y0) := Joins.cell_of_block hI.b1 1
        have d2 : wr.cell? ⟨w.heap.size + 1, 2, none⟩ = some (.int .i64 B.x1) := Joins.cell_of_block hI.b1 2
        have d3 : wr.cell? ⟨w.heap.size + 1, 3, none⟩ = some (.int .i64 B.y1) := Joins.cell_of_block hI.b1 3
        have f0 : wr.frozen? ⟨w.heap.size + 1, 0, none⟩ = false := Joins.unfrozen_of_block hI.b1 0
        have f1 : wr.frozen? ⟨w.heap.size + 1, 1, none⟩ = false := Joins.unfrozen_of_block hI.b1 1
        have f2 : wr.frozen? ⟨w.heap.size + 1, 2, none⟩ = false := Joins.unfrozen_of_block hI.b1 2
        have f3 : wr.frozen? ⟨w.heap.size + 1, 3, none⟩ = false := Joins.unfrozen_of_block hI.b1 3
        have z2 : w.heap.size + 1 < wr.heap.size := lt_of_block hI.b1
        clear e0 e1
        have HB := Lib.hid hB
        have Hkd := Lib.hid hkd
        clear hkd hB
        go_wp2
        refine wp_region_stage (by kernel_rfl) (fun l w' => (l.getD 11 false = false → w'.cell? ⟨w.heap.size + 1, 0, none⟩ = some (.int .i64 B.x0)) ∧ (l.getD 13 false = false → w'.cell? ⟨w.heap.size + 1, 2, none⟩ = some (.int .i64 B.x1)) ∧ w'.cell? ⟨wr.heap.size, 0, none⟩ = some (.int .i64 kd.1)) ⟨fun _ => Joins.cell_of_block (blk_alloc hI.b1 _) 0, fun _ => Joins.cell_of_block (blk_alloc hI.b1 _) 2, Joins.cell_of_block (blk_last _ _ (n := wr.heap.size) (by simp)) 0⟩ ?_
        intro HS
        refine wpAnyT_take (i := 0) (v := ?_) rfl (by kernel_rfl) (by kernel_rfl) (by kernel_rfl) (fun _ _ _ h => h) (fun l w => by simp only [getD_set_ne false (show 0 ≠ 11 by decide), getD_set_ne false (show 0 ≠ 13 by decide)]) (by kernel_rfl) HS (Or.inl ⟨by rfl, ?_⟩) ?_
        rotate_left
        · rintro w' ⟨l, hc, hl, hs⟩; clear hs hc hl; go_simp; with_reducible rfl
        clear HS; intro HS
        refine wpAnyT_take (i := 1) (v := ?_) rfl (by kernel_rfl) (by kernel_rfl) (by kernel_rfl) (fun _ _ _ h => h) (fun l w => by simp only [getD_set_ne false (show 1 ≠ 11 by decide), getD_set_ne false (show 1 ≠ 13 by decide)]) (by kernel_rfl) HS (Or.inl ⟨by rfl, ?_⟩) ?_
        rotate_left
        · rintro w' ⟨l, hc, hl, hs⟩; have q := hs.1 (closed_pending hc hl (by kernel_rfl)); clear hs hc hl; go_simp; with_reducible rfl
        clear HS; intro HS
        refine wpAnyT_take (i := 2) (v := ?_) rfl (by kernel_rfl) (by kernel_rfl) (by kernel_rfl) (fun _ _ _ h => h) (fun l w => by simp only [getD_set_ne false (show 2 ≠ 11 by decide), getD_set_ne false (show 2 ≠ 13 by decide)]) (by kernel_rfl) HS (Or.inl ⟨by rfl, ?_⟩) ?_
        rotate_left
        · rintro w' ⟨l, hc, hl, hs⟩; clear hs hc hl; go_simp; with_reducible rfl
        clear HS; intro HS
        refine wpAnyT_take (i := 3) (v := ?_) rfl (by kernel_rfl) (by kernel_rfl) (by kernel_rfl) (fun _ _ _ h => h) (fun l w => by simp only [getD_set_ne false (show 3 ≠ 11 by decide), getD_set_ne false (show 3 ≠ 13 by decide)]) (by kernel_rfl) HS (Or.inl ⟨by rfl, ?_⟩) ?_
        rotate_left
        · rintro w' ⟨l, hc, hl, hs⟩; have q := hs.2.2; clear hs hc hl; go_simp; with_reducible rfl
        clear HS; intro HS
        refine wpAnyT_take (i := 4) (v := ?_) rfl (by kernel_rfl) (by kernel_rfl) (by kernel_rfl) (fun _ _ _ h => h) (fun l w => by simp only [getD_set_ne false (show 4 ≠ 11 by decide), getD_set_ne false (show 4 ≠ 13 by decide)]) (by kernel_rfl) HS (Or.inl ⟨by rfl, ?_⟩) ?_
        rotate_left
        · rintro w' ⟨l, hc, hl, hs⟩; clear hs hc hl; go_simp; with_reducible rfl
        clear HS; intro HS
        refine wpAnyT_take (i := 5) (v := ?_) rfl (by kernel_rfl) (by kernel_rfl) (by kernel_rfl) (fun _ _ _ h => h) (fun l w => by simp only [getD_set_ne false (show 5 ≠ 11 by decide), getD_set_ne false (show 5 ≠ 13 by decide)]) (by kernel_rfl) HS (Or.inl ⟨by rfl, ?_⟩) ?_
        rotate_left
        · rintro w' ⟨l, hc, hl, hs⟩; clear hs hc hl; go_simp; with_reducible rfl
        clear HS; intro HS
        refine wpAnyT_take (i := 6) (v := ?_) rfl (by kernel_rfl) (by kernel_rfl) (by kernel_rfl) (fun _ _ _ h => h) (fun l w => by simp only [getD_set_ne false (show 6 ≠ 11 by decide), getD_set_ne false (show 6 ≠ 13 by decide)]) (by kernel_rfl) HS (Or.inl ⟨by rfl, ?_⟩) ?_
        rotate_left
        · rintro w' ⟨l, hc, hl, hs⟩; have q := hs.2.1 (closed_pending hc hl (by kernel_rfl)); clear hs hc hl; go_simp; with_reducible rfl
        clear HS; intro HS
        refine wpAnyT_take (i := 7) (v := ?_) rfl (by kernel_rfl) (by kernel_rfl) (by kernel_rfl) (fun _ _ _ h => h) (fun l w => by simp only [getD_set_ne false (show 7 ≠ 11 by decide), getD_set_ne false (show 7 ≠ 13 by decide)]) (by kernel_rfl) HS (Or.inl ⟨by rfl, ?_⟩) ?_
        rotate_left
        · rintro w' ⟨l, hc, hl, hs⟩; clear hs hc hl; go_simp; with_reducible rfl
        clear HS; intro HS
        refine wpAnyT_take (i := 8) (v := ?_) rfl (by kernel_rfl) (by kernel_rfl) (by kernel_rfl) (fun _ _ _ h => h) (fun l w => by simp only [getD_set_ne false (show 8 ≠ 11 by decide), getD_set_ne false (show 8 ≠ 13 by decide)]) (by kernel_rfl) HS (Or.inl ⟨by rfl, ?_⟩) ?_
        rotate_left
        · rintro w' ⟨l, hc, hl, hs⟩; have q := hs.2.2; clear hs hc hl; go_simp; with_reducible rfl
        clear HS; intro HS
        refine wpAnyT_take (i := 9) (v := ?_) rfl (by kernel_rfl) (by kernel_rfl) (by kernel_rfl) (fun _ _ _ h => h) (fun l w => by simp only [getD_set_ne false (show 9 ≠ 11 by decide), getD_set_ne false (show 9 ≠ 13 by decide)]) (by kernel_rfl) HS (Or.inl ⟨by rfl, ?_⟩) ?_
        rotate_left
        · rintro w' ⟨l, hc, hl, hs⟩; clear hs hc hl; go_simp; with_reducible rfl
        clear HS; intro HS
        refine wpAnyT_take (i := 10) (v := ?_) rfl (by kernel_rfl) (by kernel_rfl) (by kernel_rfl) (fun _ _ _ h => h) (fun l w => by simp only [getD_set_ne false (show 10 ≠ 11 by decide), getD_set_ne false (show 10 ≠ 13 by decide)]) (by kernel_rfl) HS (Or.inl ⟨by rfl, ?_⟩) ?_
        rotate_left
        · rintro w' ⟨l, hc, hl, hs⟩; clear hs hc hl; go_simp; with_reducible rfl
        clear HS; intro HS
        refine wpAnyT_one (i := 11) rfl rfl (by kernel_rfl) (fun K hK => ?_)
        go_simp
        refine hK _ _ ⟨vac (by kernel_rfl), fun _ => Joins.cell_of_block (blk_alloc (Joins.block_setCell hI.b1 _) _) 2, Joins.cell_of_block (blk_last _ _ (n := wr.heap.size) (by simp)) 0⟩ (fun HS => ?_)
        clear hK K
        refine wpAnyT_take (i := 12) (v := ?_) rfl (by kernel_rfl) (by kernel_rfl) (by kernel_rfl) (fun _ _ _ h => h) (fun l w => by simp only [getD_set_ne false (show 12 ≠ 11 by decide), getD_set_ne false (show 12 ≠ 13 by decide)]) (by kernel_rfl) HS (Or.inl ⟨by rfl, ?_⟩) ?_
        rotate_left
        · rintro w' ⟨l, hc, hl, hs⟩; clear hs hc hl; go_simp; with_reducible rfl
        clear HS; intro HS
        refine wpAnyT_one (i := 13) rfl rfl (by kernel_rfl) (fun K hK => ?_)
        go_simp
        refine hK _ _ ⟨vac (by kernel_rfl), vac (by kernel_rfl), Joins.cell_of_block (blk_last _ _ (n := wr.heap.size) (by simp)) 0⟩ (fun HS => ?_)
        clear hK K
        refine wpAnyT_done (by kernel_rfl) ?_ _
        clear HS
        simp only [ite_min, ite_max]
        go_wp2
        refine wp_region_stage (by kernel_rfl) (fun l w' => (l.getD 11 false = false → w'.cell? ⟨w.heap.size + 1, 1, none⟩ = some (.int .i64 B.y0)) ∧ (l.getD 13 false = false → w'.cell? ⟨w.heap.size + 1, 3, none⟩ = some (.int .i64 B.y1)) ∧ w'.cell? ⟨wr.heap.size, 1, none⟩ = some (.int .i64 kd.2)) ⟨fun _ => Joins.cell_of_block (blk_alloc (Joins.block_setCell (Joins.block_setCell hI.b1 _) _) _) 1, fun _ => Joins.cell_of_block (blk_alloc (Joins.block_setCell (Joins.block_setCell hI.b1 _) _) _) 3, Joins.cell_of_block (blk_last _ _ (n := wr.heap.size) (by simp)) 1⟩ ?_
        intro HS
        refine wpAnyT_take (i := 0) (v := ?_) rfl (by kernel_rfl) (by kernel_rfl) (by kernel_rfl) (fun _ _ _ h => h) (fun l w => by simp only [getD_set_ne false (show 0 ≠ 11 by decide), getD_set_ne false (show 0 ≠ 13 by decide)]) (by kernel_rfl) HS (Or.inl ⟨by rfl, ?_⟩) ?_
        rotate_left
        · rintro w' ⟨l, hc, hl, hs⟩; clear hs hc hl; go_simp; with_reducible rfl
        clear HS; intro HS
        refine wpAnyT_take (i := 1) (v := ?_) rfl (by kernel_rfl) (by kernel_rfl) (by kernel_rfl) (fun _ _ _ h => h) (fun l w => by simp only [getD_set_ne false (show 1 ≠ 11 by decide), getD_set_ne false (show 1 ≠ 13 by decide)]) (by kernel_rfl) HS (Or.inl ⟨by rfl, ?_⟩) ?_
        rotate_left
        · rintro w' ⟨l, hc, hl, hs⟩; have q := hs.1 (closed_pending hc hl (by kernel_rfl)); clear hs hc hl; go_simp; with_reducible rfl
        clear HS; intro HS
        refine wpAnyT_take (i := 2) (v := ?_) rfl (by kernel_rfl) (by kernel_rfl) (by kernel_rfl) (fun _ _ _ h => h) (fun l w => by simp only [getD_set_ne false (show 2 ≠ 11 by decide), getD_set_ne false (show 2 ≠ 13 by decide)]) (by kernel_rfl) HS (Or.inl ⟨by rfl, ?_⟩) ?_
        rotate_left
        · rintro w' ⟨l, hc, hl, hs⟩; clear hs hc hl; go_simp; with_reducible rfl
        clear HS; intro HS
        refine wpAnyT_take (i := 3) (v := ?_) rfl (by kernel_rfl) (by kernel_rfl) (by kernel_rfl) (fun _ _ _ h => h) (fun l w => by simp only [getD_set_ne false (show 3 ≠ 11 by decide), getD_set_ne false (show 3 ≠ 13 by decide)]) (by kernel_rfl) HS (Or.inl ⟨by rfl, ?_⟩) ?_
        rotate_left
        · rintro w' ⟨l, hc, hl, hs⟩; have q := hs.2.2; clear hs hc hl; go_simp; with_reducible rfl
        clear HS; intro HS
        refine wpAnyT_take (i := 4) (v := ?_) rfl (by kernel_rfl) (by kernel_rfl) (by kernel_rfl) (fun _ _ _ h => h) (fun l w => by simp only [getD_set_ne false (show 4 ≠ 11 by decide), getD_set_ne false (show 4 ≠ 13 by decide)]) (by kernel_rfl) HS (Or.inl ⟨by rfl, ?_⟩) ?_
        rotate_left
        · rintro w' ⟨l, hc, hl, hs⟩; clear hs hc hl; go_simp; with_reducible rfl
        clear HS; intro HS
        refine wpAnyT_take (i := 5) (v := ?_) rfl (by kernel_rfl) (by kernel_rfl) (by kernel_rfl) (fun _ _ _ h => h) (fun l w => by simp only [getD_set_ne false (show 5 ≠ 11 by decide), getD_set_ne false (show 5 ≠ 13 by decide)]) (by kernel_rfl) HS (Or.inl ⟨by rfl, ?_⟩) ?_
        rotate_left
        · rintro w' ⟨l, hc, hl, hs⟩; clear hs hc hl; go_simp; with_reducible rfl
        clear HS; intro HS
        refine wpAnyT_take (i := 6) (v := ?_) rfl (by kernel_rfl) (by kernel_rfl) (by kernel_rfl) (fun _ _ _ h => h) (fun l w => by simp only [getD_set_ne false (show 6 ≠ 11 by decide), getD_set_ne false (show 6 ≠ 13 by decide)]) (by kernel_rfl) HS (Or.inl ⟨by rfl, ?_⟩) ?_
        rotate_left
        · rintro w' ⟨l, hc, hl, hs⟩; have q := hs.2.1 (closed_pending hc hl (by kernel_rfl)); clear hs hc hl; go_simp; with_reducible rfl
        clear HS; intro HS
        refine wpAnyT_take (i := 7) (v := ?_) rfl (by kernel_rfl) (by kernel_rfl) (by kernel_rfl) (fun _ _ _ h => h) (fun l w => by simp only [getD_set_ne false (show 7 ≠ 11 by decide), getD_set_ne false (show 7 ≠ 13 by decide)]) (by kernel_rfl) HS (Or.inl ⟨by rfl, ?_⟩) ?_
        rotate_left
        · rintro w' ⟨l, hc, hl, hs⟩; clear hs hc hl; go_simp; with_reducible rfl
        clear HS; intro HS
        refine wpAnyT_take (i := 8) (v := ?_) rfl (by kernel_rfl) (by kernel_rfl) (by kernel_rfl) (fun _ _ _ h => h) (fun l w => by simp only [getD_set_ne false (show 8 ≠ 11 by decide), getD_set_ne false (show 8 ≠ 13 by decide)]) (by kernel_rfl) HS (Or.inl ⟨by rfl, ?_⟩) ?_
        rotate_left
        · rintro w' ⟨l, hc, hl, hs⟩; have q := hs.2.2; clear hs hc hl; go_simp; with_reducible rfl
        clear HS; intro HS
        refine wpAnyT_take (i := 9) (v := ?_) rfl (by kernel_rfl) (by kernel_rfl) (by kernel_rfl) (fun _ _ _ h => h) (fun l w => by simp only [getD_set_ne false (show 9 ≠ 11 by decide), getD_set_ne false (show 9 ≠ 13 by decide)]) (by kernel_rfl) HS (Or.inl ⟨by rfl, ?_⟩) ?_
        rotate_left
        · rintro w' ⟨l, hc, hl, hs⟩; clear hs hc hl; go_simp; with_reducible rfl
        clear HS; intro HS
        refine wpAnyT_take (i := 10) (v := ?_) rfl (by kernel_rfl) (by kernel_rfl) (by kernel_rfl) (fun _ _ _ h => h) (fun l w => by simp only [getD_set_ne false (show 10 ≠ 11 by decide), getD_set_ne false (show 10 ≠ 13 by decide)]) (by kernel_rfl) HS (Or.inl ⟨by rfl, ?_⟩) ?_
        rotate_left
        · rintro w' ⟨l, hc, hl, hs⟩; clear hs hc hl; go_simp; with_reducible rfl
        clear HS; intro HS
        refine wpAnyT_one (i := 11) rfl rfl (by kernel_rfl) (fun K hK => ?_)
        go_simp
        refine hK _ _ ⟨vac (by kernel_rfl), fun _ => Joins.cell_of_block (blk_alloc (Joins.block_setCell (Joins.block_setCell (Joins.block_setCell hI.b1 _) _) _) _) 3, Joins.cell_of_block (blk_last _ _ (n := wr.heap.size) (by simp)) 1⟩ (fun HS => ?_)
        clear hK K
        refine wpAnyT_take (i := 12) (v := ?_) rfl (by kernel_rfl) (by kernel_rfl) (by kernel_rfl) (fun _ _ _ h => h) (fun l w => by simp only [getD_set_ne false (show 12 ≠ 11 by decide), getD_set_ne false (show 12 ≠ 13 by decide)]) (by kernel_rfl) HS (Or.inl ⟨by rfl, ?_⟩) ?_
        rotate_left
        · rintro w' ⟨l, hc, hl, hs⟩; clear hs hc hl; go_simp; with_reducible rfl
        clear HS; intro HS
        refine wpAnyT_one (i := 13) rfl rfl (by kernel_rfl) (fun K hK => ?_)
        go_simp
        refine hK _ _ ⟨vac (by kernel_rfl), vac (by kernel_rfl), Joins.cell_of_block (blk_last _ _ (n := wr.heap.size) (by simp)) 1⟩ (fun HS => ?_)
        clear hK K
        refine wpAnyT_done (by kernel_rfl) ?_ _
        clear HS
        simp only [ite_min, ite_max]
        go_wp2
        go_roundw
        case rel =>
          refine ⟨k + 1, by omega, by go_num, ?_⟩
          rw [boxTo_succ Hkd.out, ← HB.out]
          rw [boxStep_eq]
          refine ⟨?_, ?_, ?_⟩
          · exact ((((((hI.below.setCell (by simp) _).setCell (by simp) _).setCell (by simp) _).setCell (by simp) _).alloc (by simp; omega) _).drew).drew
          · exact blk_alloc (blk_set (blk_set (blk_set (blk_set hI.b0 (by simp) _) (by simp) _) (by simp) _) (by simp) _) _
          · refine blk_alloc ?_ _
            rw [Joins.block_setCell (Joins.block_setCell (Joins.block_setCell (Joins.block_setCell hI.b1 _) _) _) _]
            rfl
        case measure => simp [intOf]; omega
      · obtain rfl : k = n := by omega
        obtain ⟨B, hB⟩ : ∃ B, B = boxTo (c :: r) k := ⟨_, rfl⟩
        rw [← hB] at hI
        have d0 : wr.cell? ⟨w.heap.size + 1, 0, none⟩ = some (.int .i64 B.x0) := Joins.cell_of_block hI.b1 0
        have d1 : wr.cell? ⟨w.heap.size + 1, 1, none⟩ = some (.int .i64 B.y0) := Joins.cell_of_block hI.b1 1
        have d2 : wr.cell? ⟨w.heap.size + 1, 2, none⟩ = some (.int .i64 B.x1) := Joins.cell_of_block hI.b1 2
        have d3 : wr.cell? ⟨w.heap.size + 1, 3, none⟩ = some (.int .i64 B.y1) := Joins.cell_of_block hI.b1 3
        have f0 : wr.frozen? ⟨w.heap.size, 0, none⟩ = false := Joins.unfrozen_of_block hI.b0 0
        have f1 : wr.frozen? ⟨w.heap.size, 1, none⟩ = false := Joins.unfrozen_of_block hI.b0 1
        have f2 : wr.frozen? ⟨w.heap.size, 2, none⟩ = false := Joins.unfrozen_of_block hI.b0 2
        have f3 : wr.frozen? ⟨w.heap.size, 3, none⟩ = false := Joins.unfrozen_of_block hI.b0 3
        have p0 : wr.cell? ⟨w.heap.size, 0, none⟩ = some (.int .i64 0) := Joins.cell_of_block hI.b0 0
        have p1 : wr.cell? ⟨w.heap.size, 1, none⟩ = some (.int .i64 0) := Joins.cell_of_block hI.b0 1
        have p2 : wr.cell? ⟨w.heap.size, 2, none⟩ = some (.int .i64 0) := Joins.cell_of_block hI.b0 2
        have p3 : wr.cell? ⟨w.heap.size, 3, none⟩ = some (.int .i64 0) := Joins.cell_of_block hI.b0 3
        have HB := Lib.hid hB
        clear hB
        go_wp2
        refine bodyPost_ret (v := .tuple #[.agg #[.int .i64 B.x0, .int .i64 B.y0, .int .i64 B.x1, .int .i64 B.y1], .bool true]) (by simp [results, Try.results25, go_sem, p0, p1, p2, p3]) rfl ⟨?_, ?_⟩
        · have h1 := HB.out
          have h2 := HN.out
          subst h1
          subst h2
          simp [boxF, encBox]
        · exact (((hI.below.setCell (by simp) _).setCell (by simp) _).setCell (by simp) _).setCell (by simp) _
end Go.Proofs.Ytabhpbkkjijfjaa
namespace Go.Proofs.Ytabhpbkkjijfjaa
set_option maxRecDepth 100000
open Go.RowKit

theorem infoCell : (Try.prog.info? 39).map (fun i => (i.zero, i.size, i.bytes)) = some (some (.agg #[.int .i64 0, .int .i64 0]), 2, 16) := by kernel_rfl

theorem sl_own_up {w w' : World} {base : Nat} {e : TypeId} {k bytes n : Nat} {a : Option Addr} {cap : Nat} {fl : List Value} (h : w.ownsRow base e k (.slice a n cap) n fl) (hk : 0 < k) (hb : n * bytes ≤ 140737488351232) (hg : Below w.heap.size w w') : Sl w' k bytes a n cap fl := by
  obtain ⟨a', c', e1, hs⟩ := sl_of_own h hb
  simp only [Value.slice.injEq, true_and] at e1
  obtain ⟨rfl, rfl⟩ := e1
  exact hs.below hk hg

theorem encCell_one (zs : List (Int × Int)) : ∀ u ∈ zs.flatMap encCell, u.oneCell' = true := by
  intro u hu
  obtain ⟨k, _, h⟩ := List.mem_flatMap.1 hu
  simp only [encCell, List.mem_cons, List.not_mem_nil, or_false] at h
  rcases h with rfl | rfl <;> rfl

/-- A list of cells that the call owns. -/
def Cells (w : World) (zs : List (Int × Int)) (e : Ending) (w' : World) : Prop :=
  ∃ v', e = .returned v' ∧ Below w.heap.size w w' ∧ w'.ownsRow w.heap.size 39 2 v' zs.length (zs.flatMap encCell)

set_option maxRecDepth 100000 in
set_option maxHeartbeats 1000000 in
theorem cells_any (zs : List (Int × Int)) (a : Option Addr) (cap : Nat) (w : World) (hs : Sl w 2 16 a zs.length cap (zs.flatMap encCell)) :
    Calls Try.prog 13 #[.slice a zs.length cap] w (Cells w zs) := by
  obtain ⟨i0, hi, hz0, hz1, hz2⟩ := info_parts infoCell
  have hn := hs.wide
  have hl := hs.len
  match ha : a with
  | none =>
    have hc : cap = 0 := hs.nil rfl
    have hk0 : zs = [] := List.eq_nil_of_length_eq_zero (by have := hs.room; omega)
    subst hc
    subst hk0
    clear hl hn
    go_enter Try.func13, Try.ntmps13
    go_wp2_with ((at_builtin; refine wpList_append_own_none rfl _ _ 24 rfl w.heap.size 39 i0 2 Try.underlying24 hi _ 0 [] rfl (World.ownsRow_nil _ _ _ _) rfl ?_))
    refine bodyPost_ret (v := .slice none 0 0) (by simp [results, Try.results13, go_sem]) rfl ⟨_, rfl, Below.refl _ _, World.ownsRow_nil _ _ _ _⟩
  | some ad =>
    have hW : ∀ j u, (zs.flatMap encCell)[j]? = some u → w.cell? (ad.add j) = some u := hs.news
    clear hl
    go_enter Try.func13, Try.ntmps13
    go_wp2_with ((at_builtin; refine wpList_append_own_at _ rfl _ _ 24 rfl w.heap.size 39 i0 _ 2 16 Try.underlying24 hi hz0 hz1 hz2 rfl (by omega) (.slice none 0 0) 0 [] rfl (World.ownsRow_nil _ _ _ _) ad zs.length cap (zs.flatMap encCell) rfl hs.len hW (encCell_one zs) (by unfold maxLen; omega) (by omega) (by simp) ?_; intro v1 w1 hown1 hgrow1 hnil1 hat1; rw [Nat.zero_add, List.nil_append] at hown1; obtain ⟨va, vc, rfl⟩ := own_form hown1; clear hnil1 hat1))
    refine bodyPost_ret (v := .slice va zs.length vc) (by simp [results, Try.results13, go_sem]) rfl ⟨_, rfl, (Below.refl _ _).grown hgrow1 (Nat.le_refl _) (by simp [Value.ownBlock]), hown1⟩
end Go.Proofs.Ytabhpbkkjijfjaa
namespace Go.Proofs.Ytabhpbkkjijfjaa
set_option maxRecDepth 100000
open Go.RowKit

theorem run_make_rowN {P : Program} (t e : TypeId) (i : TypeInfo) (z : Value) (ht : P.underlying t = some (.slice e)) (hi : P.info? e = some i) (hz : i.zero = some z)
    (kl kc : IntKind) (n c : Nat) (hnc : n ≤ c) (hbytes : i.bytes * c ≤ 281474976710656) (h63 : c ≤ 9223372036854775807) (w : World) :
    (Instr.makeSlice t (.int kl (n : Int)) (.int kc (c : Int))).run P w = .ok (.slice (some ⟨w.heap.size, 0, none⟩) n c) (w.alloc (.cells (madeCells z.cells (c * i.size)) e)) := by
  have hb : (i.bytes : Int) * (c : Int) ≤ 281474976710656 := by
    have h : ((i.bytes * c : Nat) : Int) ≤ 281474976710656 := by omega
    rwa [Int.natCast_mul] at h
  have hr := run_make (P := P) w t e i z ht hi hz kl kc n c (by omega) (by omega) hb (by omega)
  simp only [Int.toNat_natCast] at hr
  exact hr
theorem step_copy_eq {P : Program} {ops : Array Oper} {o : Oper} {a : Act} {w : World} {K : Act → World → Prop} {Q : Exit → Act → World → Prop} {E : Prop} (hgd : o.guard = none) (d s : Operand) (t t' : TypeId)
    (ho : o.op = .call { callee := .builtin .copy, args := #[d, s], argTypes := #[t, t'] }) (v u : Value) (hd : a.eval d = v) (hs : a.eval s = u) {v' : Value} {w' : World}
    (hr : (Builtin.copy_ #[t, t'] o.type #[v, u]).run P w = .ok v' w') (h : K (a.put o.dst v') w') :
    if Region.wanted o (yielded ops a.tmps) = true then Oper.wp P o a w K Q else E := by
  have hw : Region.wanted o (yielded ops a.tmps) = true := by simp [Region.wanted, hgd]
  rw [if_pos hw]
  unfold Oper.wp execOp
  simp only [ho, resolve, invoke, builtin, Sem.run_bind, Sem.run_pure, Result.andThen_ok, List.map_toArray, List.map_cons, List.map_nil, hd, hs, hr]
  exact h
theorem grown_of_below {a w : World} (h : Below a.heap.size a w) (row : Option Nat) : a.grownBy w row := ⟨h.os, h.tape, h.output, h.size, fun i hi _ => h.block i hi⟩
theorem own_below {w w' : World} {base : Nat} {e : TypeId} {size n : Nat} {v : Value} {xs : List Value} (h : w.ownsRow base e size v n xs) (hb : Below w.heap.size w w') : w'.ownsRow base e size v n xs :=
  h.kept (grown_of_below hb none) (by cases v.ownBlock <;> simp)
/-- A row of noughts. -/
def zerosA (n : Nat) : Array Value := (List.replicate n (Value.int .u8 0)).toArray
theorem zerosA_get {n j : Nat} (h : j < n) : (zerosA n)[j]? = some (.int .u8 0) := by simp [zerosA, h]
theorem zerosA_size (n : Nat) : (zerosA n).size = n := by simp [zerosA]
theorem infoByteM : (Try.prog.info? 5).map (fun i => (i.zero, i.size, i.bytes)) = some (some (.int .u8 0), 1, 1) := by kernel_rfl
end Go.Proofs.Ytabhpbkkjijfjaa
