/-
  leap's grid.
-/
import Derived.LoopN
import Derived.Test.YtabhpbkkjijfjaaZLeapSteps35
namespace Go.Proofs.Ytabhpbkkjijfjaa
set_option maxRecDepth 100000
open Go.RowKit

/-- Sixteen numbers, by the four quarters' quarters. -/
def gArr (p0 p1 p2 p3 : Four) : Array Value := #[.int .i64 p0.1, .int .i64 p0.2.1, .int .i64 p1.1, .int .i64 p1.2.1, .int .i64 p0.2.2.1, .int .i64 p0.2.2.2, .int .i64 p1.2.2.1, .int .i64 p1.2.2.2, .int .i64 p2.1, .int .i64 p2.2.1, .int .i64 p3.1, .int .i64 p3.2.1, .int .i64 p2.2.2.1, .int .i64 p2.2.2.2, .int .i64 p3.2.2.1, .int .i64 p3.2.2.2]
def fsel (q : Four) : Nat → Int
  | 0 => q.1
  | 1 => q.2.1
  | 2 => q.2.2.1
  | _ => q.2.2.2
def kidsB (S : ArS) (t : Nat) (bad id : Int) : Four := if bad = 0 then (kidsA S t id).1 else (0, 0, 0, 0)
/-- A grid as a value. -/
def gridB (S : ArS) (t : Nat) (bad id : Int) : Value := .agg (gArr (kidsB S t bad (kidsB S t bad id).1) (kidsB S t bad (kidsB S t bad id).2.1) (kidsB S t bad (kidsB S t bad id).2.2.1) (kidsB S t bad (kidsB S t bad id).2.2.2))
theorem lkids_ok (lb b t : Nat) (B Lv bad : Int) (S : ArS) (F : Nat → Prop) (id : Int) (w : World) (h : IsAr b S w F) (hh : LAt lb b t B Lv bad w) (h2 : bad = 0 → (kidsA S t id).2 = 0) :
    Calls Try.prog 61 #[.pointer (some ⟨lb, 0, none⟩), .int .i64 id] w (LRead w lb b t B Lv (fourV (kidsB S t bad id)) bad) := by
  have := lkids_any lb b t B Lv bad S F id w h hh
  unfold kidsB
  by_cases hb : bad = 0
  · rw [if_pos hb, if_pos hb, h2 hb] at this
    rw [if_pos hb]
    subst hb; exact this
  · rw [if_neg hb, if_neg hb] at this
    rw [if_neg hb]; exact this
/-- Behind some rounds of grid's loops. -/
structure GS (w : World) (lb b t : Nat) (B Lv bad : Int) (p0 p1 p2 p3 : Four) (W : World) : Prop where
  at_ : LAt lb b t B Lv bad W
  keep : Keeps (fun i => i = lb) w W
  lt : lb < w.heap.size
  res : W.heap[w.heap.size]? = some (.cells #[.int .i64 0, .int .i64 0, .int .i64 0, .int .i64 0, .int .i64 0, .int .i64 0, .int .i64 0, .int .i64 0, .int .i64 0, .int .i64 0, .int .i64 0, .int .i64 0, .int .i64 0, .int .i64 0, .int .i64 0, .int .i64 0] 99 (0, 0))
  own : W.heap[w.heap.size + 1]? = some (.cells (gArr p0 p1 p2 p3) 99 (0, 0))
section
variable {w W W' : World} {lb b t : Nat} {B Lv bad : Int} {p0 p1 p2 p3 q : Four}
theorem GS.kids (h : GS w lb b t B Lv bad p0 p1 p2 p3 W) (h1 : LAt lb b t B Lv bad W') (h2 : Keeps (fun i => i = lb) W W') : GS w lb b t B Lv bad p0 p1 p2 p3 W' :=
  ⟨h1, h.keep.trans h2 (fun _ _ e => e), h.lt, (h2.block _ (lt_of_block h.res) (by have := h.lt; omega)).trans h.res, (h2.block _ (lt_of_block h.own) (by have := h.lt; omega)).trans h.own⟩
theorem GS.ar {S : ArS} {F : Nat → Prop} (h : GS w lb b t B Lv bad p0 p1 p2 p3 W) (hi : IsAr b S w F) (hn : ¬ F lb) : IsAr b S W F := hi.keep (G := fun i => i = lb) h.keep (fun i hF e => hn (by rw [← e]; exact hF))
theorem GS.put0 (h : GS w lb b t B Lv bad p0 p1 p2 p3 W) (q : Four) : GS w lb b t B Lv bad q p1 p2 p3 ((((W.setCell ⟨w.heap.size + 1, 0, none⟩ (.int .i64 q.1)).setCell ⟨w.heap.size + 1, 1, none⟩ (.int .i64 q.2.1)).setCell ⟨w.heap.size + 1, 4, none⟩ (.int .i64 q.2.2.1)).setCell ⟨w.heap.size + 1, 5, none⟩ (.int .i64 q.2.2.2)) := by
  have hlt := h.lt
  have hne : lb ≠ w.heap.size + 1 := by omega
  have hks : ∀ {V : World} (j : Nat) (u : Value), Keeps (fun i => i = lb) w V → Keeps (fun i => i = lb) w (V.setCell ⟨w.heap.size + 1, j, none⟩ u) := fun j u hk => Keeps.setCell (p := ⟨w.heap.size + 1, j, none⟩) hk (fun hp => absurd (show w.heap.size + 1 < w.heap.size from hp) (by omega)) u
  have hrs : ∀ {V : World} (j : Nat) (u : Value), (V.setCell ⟨w.heap.size + 1, j, none⟩ u).heap[w.heap.size]? = V.heap[w.heap.size]? := fun j u => Below.heap_setCell _ _ _ _ (by show w.heap.size ≠ w.heap.size + 1; omega)
  refine ⟨LAt.other (LAt.other (LAt.other (LAt.other h.at_ hne _) hne _) hne _) hne _, hks _ _ (hks _ _ (hks _ _ (hks _ _ h.keep))), hlt, ?_, ?_⟩
  · rw [hrs, hrs, hrs, hrs]; exact h.res
  · exact Joins.block_setCell (Joins.block_setCell (Joins.block_setCell (Joins.block_setCell h.own _) _) _) _
theorem GS.put1 (h : GS w lb b t B Lv bad p0 p1 p2 p3 W) (q : Four) : GS w lb b t B Lv bad p0 q p2 p3 ((((W.setCell ⟨w.heap.size + 1, 2, none⟩ (.int .i64 q.1)).setCell ⟨w.heap.size + 1, 3, none⟩ (.int .i64 q.2.1)).setCell ⟨w.heap.size + 1, 6, none⟩ (.int .i64 q.2.2.1)).setCell ⟨w.heap.size + 1, 7, none⟩ (.int .i64 q.2.2.2)) := by
  have hlt := h.lt
  have hne : lb ≠ w.heap.size + 1 := by omega
  have hks : ∀ {V : World} (j : Nat) (u : Value), Keeps (fun i => i = lb) w V → Keeps (fun i => i = lb) w (V.setCell ⟨w.heap.size + 1, j, none⟩ u) := fun j u hk => Keeps.setCell (p := ⟨w.heap.size + 1, j, none⟩) hk (fun hp => absurd (show w.heap.size + 1 < w.heap.size from hp) (by omega)) u
  have hrs : ∀ {V : World} (j : Nat) (u : Value), (V.setCell ⟨w.heap.size + 1, j, none⟩ u).heap[w.heap.size]? = V.heap[w.heap.size]? := fun j u => Below.heap_setCell _ _ _ _ (by show w.heap.size ≠ w.heap.size + 1; omega)
  refine ⟨LAt.other (LAt.other (LAt.other (LAt.other h.at_ hne _) hne _) hne _) hne _, hks _ _ (hks _ _ (hks _ _ (hks _ _ h.keep))), hlt, ?_, ?_⟩
  · rw [hrs, hrs, hrs, hrs]; exact h.res
  · exact Joins.block_setCell (Joins.block_setCell (Joins.block_setCell (Joins.block_setCell h.own _) _) _) _
theorem GS.put2 (h : GS w lb b t B Lv bad p0 p1 p2 p3 W) (q : Four) : GS w lb b t B Lv bad p0 p1 q p3 ((((W.setCell ⟨w.heap.size + 1, 8, none⟩ (.int .i64 q.1)).setCell ⟨w.heap.size + 1, 9, none⟩ (.int .i64 q.2.1)).setCell ⟨w.heap.size + 1, 12, none⟩ (.int .i64 q.2.2.1)).setCell ⟨w.heap.size + 1, 13, none⟩ (.int .i64 q.2.2.2)) := by
  have hlt := h.lt
  have hne : lb ≠ w.heap.size + 1 := by omega
  have hks : ∀ {V : World} (j : Nat) (u : Value), Keeps (fun i => i = lb) w V → Keeps (fun i => i = lb) w (V.setCell ⟨w.heap.size + 1, j, none⟩ u) := fun j u hk => Keeps.setCell (p := ⟨w.heap.size + 1, j, none⟩) hk (fun hp => absurd (show w.heap.size + 1 < w.heap.size from hp) (by omega)) u
  have hrs : ∀ {V : World} (j : Nat) (u : Value), (V.setCell ⟨w.heap.size + 1, j, none⟩ u).heap[w.heap.size]? = V.heap[w.heap.size]? := fun j u => Below.heap_setCell _ _ _ _ (by show w.heap.size ≠ w.heap.size + 1; omega)
  refine ⟨LAt.other (LAt.other (LAt.other (LAt.other h.at_ hne _) hne _) hne _) hne _, hks _ _ (hks _ _ (hks _ _ (hks _ _ h.keep))), hlt, ?_, ?_⟩
  · rw [hrs, hrs, hrs, hrs]; exact h.res
  · exact Joins.block_setCell (Joins.block_setCell (Joins.block_setCell (Joins.block_setCell h.own _) _) _) _
theorem GS.put3 (h : GS w lb b t B Lv bad p0 p1 p2 p3 W) (q : Four) : GS w lb b t B Lv bad p0 p1 p2 q ((((W.setCell ⟨w.heap.size + 1, 10, none⟩ (.int .i64 q.1)).setCell ⟨w.heap.size + 1, 11, none⟩ (.int .i64 q.2.1)).setCell ⟨w.heap.size + 1, 14, none⟩ (.int .i64 q.2.2.1)).setCell ⟨w.heap.size + 1, 15, none⟩ (.int .i64 q.2.2.2)) := by
  have hlt := h.lt
  have hne : lb ≠ w.heap.size + 1 := by omega
  have hks : ∀ {V : World} (j : Nat) (u : Value), Keeps (fun i => i = lb) w V → Keeps (fun i => i = lb) w (V.setCell ⟨w.heap.size + 1, j, none⟩ u) := fun j u hk => Keeps.setCell (p := ⟨w.heap.size + 1, j, none⟩) hk (fun hp => absurd (show w.heap.size + 1 < w.heap.size from hp) (by omega)) u
  have hrs : ∀ {V : World} (j : Nat) (u : Value), (V.setCell ⟨w.heap.size + 1, j, none⟩ u).heap[w.heap.size]? = V.heap[w.heap.size]? := fun j u => Below.heap_setCell _ _ _ _ (by show w.heap.size ≠ w.heap.size + 1; omega)
  refine ⟨LAt.other (LAt.other (LAt.other (LAt.other h.at_ hne _) hne _) hne _) hne _, hks _ _ (hks _ _ (hks _ _ (hks _ _ h.keep))), hlt, ?_, ?_⟩
  · rw [hrs, hrs, hrs, hrs]; exact h.res
  · exact Joins.block_setCell (Joins.block_setCell (Joins.block_setCell (Joins.block_setCell h.own _) _) _) _
end
theorem set16 {w : World} {g : Nat} {ty : TypeId} {z b0 b1 b2 b3 b4 b5 b6 b7 b8 b9 b10 b11 b12 b13 b14 b15 : Value} (h : w.heap[g]? = some (.cells #[z, z, z, z, z, z, z, z, z, z, z, z, z, z, z, z] ty (0, 0))) :
    ((((((((((((((((w.setCell ⟨g, 0, none⟩ b0).setCell ⟨g, 1, none⟩ b1).setCell ⟨g, 2, none⟩ b2).setCell ⟨g, 3, none⟩ b3).setCell ⟨g, 4, none⟩ b4).setCell ⟨g, 5, none⟩ b5).setCell ⟨g, 6, none⟩ b6).setCell ⟨g, 7, none⟩ b7).setCell ⟨g, 8, none⟩ b8).setCell ⟨g, 9, none⟩ b9).setCell ⟨g, 10, none⟩ b10).setCell ⟨g, 11, none⟩ b11).setCell ⟨g, 12, none⟩ b12).setCell ⟨g, 13, none⟩ b13).setCell ⟨g, 14, none⟩ b14).setCell ⟨g, 15, none⟩ b15).heap[g]? = some (.cells #[b0, b1, b2, b3, b4, b5, b6, b7, b8, b9, b10, b11, b12, b13, b14, b15] ty (0, 0)) := by
  have h : (w.setCell ⟨g, 0, none⟩ b0).heap[g]? = some (.cells #[b0, z, z, z, z, z, z, z, z, z, z, z, z, z, z, z] ty (0, 0)) := Joins.block_setCell h b0
  have h : ((w.setCell ⟨g, 0, none⟩ b0).setCell ⟨g, 1, none⟩ b1).heap[g]? = some (.cells #[b0, b1, z, z, z, z, z, z, z, z, z, z, z, z, z, z] ty (0, 0)) := Joins.block_setCell h b1
  have h : (((w.setCell ⟨g, 0, none⟩ b0).setCell ⟨g, 1, none⟩ b1).setCell ⟨g, 2, none⟩ b2).heap[g]? = some (.cells #[b0, b1, b2, z, z, z, z, z, z, z, z, z, z, z, z, z] ty (0, 0)) := Joins.block_setCell h b2
  have h : ((((w.setCell ⟨g, 0, none⟩ b0).setCell ⟨g, 1, none⟩ b1).setCell ⟨g, 2, none⟩ b2).setCell ⟨g, 3, none⟩ b3).heap[g]? = some (.cells #[b0, b1, b2, b3, z, z, z, z, z, z, z, z, z, z, z, z] ty (0, 0)) := Joins.block_setCell h b3
  have h : (((((w.setCell ⟨g, 0, none⟩ b0).setCell ⟨g, 1, none⟩ b1).setCell ⟨g, 2, none⟩ b2).setCell ⟨g, 3, none⟩ b3).setCell ⟨g, 4, none⟩ b4).heap[g]? = some (.cells #[b0, b1, b2, b3, b4, z, z, z, z, z, z, z, z, z, z, z] ty (0, 0)) := Joins.block_setCell h b4
  have h : ((((((w.setCell ⟨g, 0, none⟩ b0).setCell ⟨g, 1, none⟩ b1).setCell ⟨g, 2, none⟩ b2).setCell ⟨g, 3, none⟩ b3).setCell ⟨g, 4, none⟩ b4).setCell ⟨g, 5, none⟩ b5).heap[g]? = some (.cells #[b0, b1, b2, b3, b4, b5, z, z, z, z, z, z, z, z, z, z] ty (0, 0)) := Joins.block_setCell h b5
  have h : (((((((w.setCell ⟨g, 0, none⟩ b0).setCell ⟨g, 1, none⟩ b1).setCell ⟨g, 2, none⟩ b2).setCell ⟨g, 3, none⟩ b3).setCell ⟨g, 4, none⟩ b4).setCell ⟨g, 5, none⟩ b5).setCell ⟨g, 6, none⟩ b6).heap[g]? = some (.cells #[b0, b1, b2, b3, b4, b5, b6, z, z, z, z, z, z, z, z, z] ty (0, 0)) := Joins.block_setCell h b6
  have h : ((((((((w.setCell ⟨g, 0, none⟩ b0).setCell ⟨g, 1, none⟩ b1).setCell ⟨g, 2, none⟩ b2).setCell ⟨g, 3, none⟩ b3).setCell ⟨g, 4, none⟩ b4).setCell ⟨g, 5, none⟩ b5).setCell ⟨g, 6, none⟩ b6).setCell ⟨g, 7, none⟩ b7).heap[g]? = some (.cells #[b0, b1, b2, b3, b4, b5, b6, b7, z, z, z, z, z, z, z, z] ty (0, 0)) := Joins.block_setCell h b7
  have h : (((((((((w.setCell ⟨g, 0, none⟩ b0).setCell ⟨g, 1, none⟩ b1).setCell ⟨g, 2, none⟩ b2).setCell ⟨g, 3, none⟩ b3).setCell ⟨g, 4, none⟩ b4).setCell ⟨g, 5, none⟩ b5).setCell ⟨g, 6, none⟩ b6).setCell ⟨g, 7, none⟩ b7).setCell ⟨g, 8, none⟩ b8).heap[g]? = some (.cells #[b0, b1, b2, b3, b4, b5, b6, b7, b8, z, z, z, z, z, z, z] ty (0, 0)) := Joins.block_setCell h b8
  have h : ((((((((((w.setCell ⟨g, 0, none⟩ b0).setCell ⟨g, 1, none⟩ b1).setCell ⟨g, 2, none⟩ b2).setCell ⟨g, 3, none⟩ b3).setCell ⟨g, 4, none⟩ b4).setCell ⟨g, 5, none⟩ b5).setCell ⟨g, 6, none⟩ b6).setCell ⟨g, 7, none⟩ b7).setCell ⟨g, 8, none⟩ b8).setCell ⟨g, 9, none⟩ b9).heap[g]? = some (.cells #[b0, b1, b2, b3, b4, b5, b6, b7, b8, b9, z, z, z, z, z, z] ty (0, 0)) := Joins.block_setCell h b9
  have h : (((((((((((w.setCell ⟨g, 0, none⟩ b0).setCell ⟨g, 1, none⟩ b1).setCell ⟨g, 2, none⟩ b2).setCell ⟨g, 3, none⟩ b3).setCell ⟨g, 4, none⟩ b4).setCell ⟨g, 5, none⟩ b5).setCell ⟨g, 6, none⟩ b6).setCell ⟨g, 7, none⟩ b7).setCell ⟨g, 8, none⟩ b8).setCell ⟨g, 9, none⟩ b9).setCell ⟨g, 10, none⟩ b10).heap[g]? = some (.cells #[b0, b1, b2, b3, b4, b5, b6, b7, b8, b9, b10, z, z, z, z, z] ty (0, 0)) := Joins.block_setCell h b10
  have h : ((((((((((((w.setCell ⟨g, 0, none⟩ b0).setCell ⟨g, 1, none⟩ b1).setCell ⟨g, 2, none⟩ b2).setCell ⟨g, 3, none⟩ b3).setCell ⟨g, 4, none⟩ b4).setCell ⟨g, 5, none⟩ b5).setCell ⟨g, 6, none⟩ b6).setCell ⟨g, 7, none⟩ b7).setCell ⟨g, 8, none⟩ b8).setCell ⟨g, 9, none⟩ b9).setCell ⟨g, 10, none⟩ b10).setCell ⟨g, 11, none⟩ b11).heap[g]? = some (.cells #[b0, b1, b2, b3, b4, b5, b6, b7, b8, b9, b10, b11, z, z, z, z] ty (0, 0)) := Joins.block_setCell h b11
  have h : (((((((((((((w.setCell ⟨g, 0, none⟩ b0).setCell ⟨g, 1, none⟩ b1).setCell ⟨g, 2, none⟩ b2).setCell ⟨g, 3, none⟩ b3).setCell ⟨g, 4, none⟩ b4).setCell ⟨g, 5, none⟩ b5).setCell ⟨g, 6, none⟩ b6).setCell ⟨g, 7, none⟩ b7).setCell ⟨g, 8, none⟩ b8).setCell ⟨g, 9, none⟩ b9).setCell ⟨g, 10, none⟩ b10).setCell ⟨g, 11, none⟩ b11).setCell ⟨g, 12, none⟩ b12).heap[g]? = some (.cells #[b0, b1, b2, b3, b4, b5, b6, b7, b8, b9, b10, b11, b12, z, z, z] ty (0, 0)) := Joins.block_setCell h b12
  have h : ((((((((((((((w.setCell ⟨g, 0, none⟩ b0).setCell ⟨g, 1, none⟩ b1).setCell ⟨g, 2, none⟩ b2).setCell ⟨g, 3, none⟩ b3).setCell ⟨g, 4, none⟩ b4).setCell ⟨g, 5, none⟩ b5).setCell ⟨g, 6, none⟩ b6).setCell ⟨g, 7, none⟩ b7).setCell ⟨g, 8, none⟩ b8).setCell ⟨g, 9, none⟩ b9).setCell ⟨g, 10, none⟩ b10).setCell ⟨g, 11, none⟩ b11).setCell ⟨g, 12, none⟩ b12).setCell ⟨g, 13, none⟩ b13).heap[g]? = some (.cells #[b0, b1, b2, b3, b4, b5, b6, b7, b8, b9, b10, b11, b12, b13, z, z] ty (0, 0)) := Joins.block_setCell h b13
  have h : (((((((((((((((w.setCell ⟨g, 0, none⟩ b0).setCell ⟨g, 1, none⟩ b1).setCell ⟨g, 2, none⟩ b2).setCell ⟨g, 3, none⟩ b3).setCell ⟨g, 4, none⟩ b4).setCell ⟨g, 5, none⟩ b5).setCell ⟨g, 6, none⟩ b6).setCell ⟨g, 7, none⟩ b7).setCell ⟨g, 8, none⟩ b8).setCell ⟨g, 9, none⟩ b9).setCell ⟨g, 10, none⟩ b10).setCell ⟨g, 11, none⟩ b11).setCell ⟨g, 12, none⟩ b12).setCell ⟨g, 13, none⟩ b13).setCell ⟨g, 14, none⟩ b14).heap[g]? = some (.cells #[b0, b1, b2, b3, b4, b5, b6, b7, b8, b9, b10, b11, b12, b13, b14, z] ty (0, 0)) := Joins.block_setCell h b14
  have h : ((((((((((((((((w.setCell ⟨g, 0, none⟩ b0).setCell ⟨g, 1, none⟩ b1).setCell ⟨g, 2, none⟩ b2).setCell ⟨g, 3, none⟩ b3).setCell ⟨g, 4, none⟩ b4).setCell ⟨g, 5, none⟩ b5).setCell ⟨g, 6, none⟩ b6).setCell ⟨g, 7, none⟩ b7).setCell ⟨g, 8, none⟩ b8).setCell ⟨g, 9, none⟩ b9).setCell ⟨g, 10, none⟩ b10).setCell ⟨g, 11, none⟩ b11).setCell ⟨g, 12, none⟩ b12).setCell ⟨g, 13, none⟩ b13).setCell ⟨g, 14, none⟩ b14).setCell ⟨g, 15, none⟩ b15).heap[g]? = some (.cells #[b0, b1, b2, b3, b4, b5, b6, b7, b8, b9, b10, b11, b12, b13, b14, b15] ty (0, 0)) := Joins.block_setCell h b15
  exact h
set_option maxHeartbeats 8000000 in
set_option maxRecDepth 100000 in
theorem lgrid_any (lb b t : Nat) (B Lv bad : Int) (S : ArS) (F : Nat → Prop) (id : Int) (w : World) (h : IsAr b S w F) (hh : LAt lb b t B Lv bad w) (hn : ¬ F lb) (h2 : bad = 0 → (kidsA S t id).2 = 0 ∧ ∀ k, (kidsA S t (fsel (kidsA S t id).1 k)).2 = 0) :
    Calls Try.prog 50 #[.pointer (some ⟨lb, 0, none⟩), .int .i64 id] w (LRead w lb b t B Lv (gridB S t bad id) bad) := by
  have hlt := hh.lt
  obtain ⟨Z, hZ⟩ : ∃ Z : Array Value, Z = #[.int .i64 0, .int .i64 0, .int .i64 0, .int .i64 0, .int .i64 0, .int .i64 0, .int .i64 0, .int .i64 0, .int .i64 0, .int .i64 0, .int .i64 0, .int .i64 0, .int .i64 0, .int .i64 0, .int .i64 0, .int .i64 0] := ⟨_, rfl⟩
  obtain ⟨X, hXe⟩ : ∃ X, X = (w.alloc (.cells Z 99 (0, 0))).alloc (.cells Z 99 (0, 0)) := ⟨_, rfl⟩
  have hbX : Below w.heap.size w X := by rw [hXe]; exact ((Below.refl _ _).alloc (Nat.le_refl _) _).alloc (by simp) _
  have h0 : GS w lb b t B Lv bad (0, 0, 0, 0) (0, 0, 0, 0) (0, 0, 0, 0) (0, 0, 0, 0) X := by
    refine ⟨hh.keep (hbX.block lb hlt), Keeps.of_below hbX, hlt, ?_, ?_⟩
    · rw [hXe, Below.heap_alloc _ _ _ (by simp)]
      rw [← hZ]; exact blk_last w _ rfl
    · rw [hXe, show w.heap.size + 1 = (w.alloc (.cells Z 99 (0, 0))).heap.size by simp]
      rw [hZ]; exact blk_last _ _ rfl
  have HXE := Lib.hid hXe
  rw [hZ] at HXE
  have HG := Lib.hid h0
  have HI := Lib.hid h
  obtain ⟨q, hq⟩ : ∃ q, q = kidsB S t bad id := ⟨_, rfl⟩
  have e2 : ∀ k, bad = 0 → (kidsA S t (fsel q k)).2 = 0 := fun k hb => by
    rw [hq, kidsB, if_pos hb]; exact (h2 hb).2 k
  have HE := Lib.hid e2
  have HK := Lib.hid (lkids_ok lb b t B Lv bad S F id X (h0.ar h hn) h0.at_ (fun hb => (h2 hb).1))
  rw [← hq] at HK
  unfold gridB
  rw [← hq]
  clear h hh hZ hXe hbX h0 h2 hq e2
  obtain ⟨q0, q1, q2, q3⟩ := q
  unfold fourV at HK
  simp only at HK ⊢
  obtain ⟨P0, hP0⟩ : ∃ P, P = kidsB S t bad q0 := ⟨_, rfl⟩
  obtain ⟨P1, hP1⟩ : ∃ P, P = kidsB S t bad q1 := ⟨_, rfl⟩
  obtain ⟨P2, hP2⟩ : ∃ P, P = kidsB S t bad q2 := ⟨_, rfl⟩
  obtain ⟨P3, hP3⟩ : ∃ P, P = kidsB S t bad q3 := ⟨_, rfl⟩
  rw [← hP0, ← hP1, ← hP2, ← hP3]
  have HP := Lib.hid (show P0 = kidsB S t bad q0 ∧ P1 = kidsB S t bad q1 ∧ P2 = kidsB S t bad q2 ∧ P3 = kidsB S t bad q3 from ⟨hP0, hP1, hP2, hP3⟩)
  clear hP0 hP1 hP2 hP3
  obtain ⟨P00, P01, P02, P03⟩ := P0
  obtain ⟨P10, P11, P12, P13⟩ := P1
  obtain ⟨P20, P21, P22, P23⟩ := P2
  obtain ⟨P30, P31, P32, P33⟩ := P3
  have ix : ∀ (a0 a1 a2 a3 : Int) W, (Instr.index 72 (.agg #[.int .i64 a0, .int .i64 a1, .int .i64 a2, .int .i64 a3]) (.int .i64 0)).run Try.prog W = .ok (.int .i64 a0) W := fun a0 a1 a2 a3 W => by kernel_rfl
  have iy : ∀ (a0 a1 a2 a3 : Int) W, (Instr.index 72 (.agg #[.int .i64 a0, .int .i64 a1, .int .i64 a2, .int .i64 a3]) (.int .i64 1)).run Try.prog W = .ok (.int .i64 a1) W := fun a0 a1 a2 a3 W => by kernel_rfl
  have iz : ∀ (a0 a1 a2 a3 : Int) W, (Instr.index 72 (.agg #[.int .i64 a0, .int .i64 a1, .int .i64 a2, .int .i64 a3]) (.int .i64 2)).run Try.prog W = .ok (.int .i64 a2) W := fun a0 a1 a2 a3 W => by kernel_rfl
  have iw : ∀ (a0 a1 a2 a3 : Int) W, (Instr.index 72 (.agg #[.int .i64 a0, .int .i64 a1, .int .i64 a2, .int .i64 a3]) (.int .i64 3)).run Try.prog W = .ok (.int .i64 a3) W := fun a0 a1 a2 a3 W => by kernel_rfl
  go_enter Try.func50, Try.ntmps50
  go_upto_region 2 with fail
  rw [← HXE.out]
  go_wp2_with fail
  refine HK.out.mono ?_
  rintro e W0 ⟨rfl, hl0, hk0⟩
  have HG0 := Lib.hid (HG.out.kids hl0 hk0)
  clear hl0 hk0
  go_wp2_with fail
  refine wp_loop_rounds 5 ?_
  rw [rounds_succ]
  have HC0 := Lib.hid (lkids_ok lb b t B Lv bad S F q0 W0 (HG0.out.ar HI.out hn) HG0.out.at_ (HE.out 0))
  rw [← HP.out.1] at HC0
  unfold fourV at HC0
  simp only at HC0
  go_wp2_with fail
  refine HC0.out.mono ?_
  rintro e W1 ⟨rfl, hl0, hk0⟩
  have hg0 := HG0.out.kids hl0 hk0
  have HG1 := Lib.hid hg0
  have c0 : W1.cell? ⟨w.heap.size + 1, 0, none⟩ = some (.int .i64 0) := Joins.cell_of_block hg0.own 0
  have c1 : W1.cell? ⟨w.heap.size + 1, 1, none⟩ = some (.int .i64 0) := Joins.cell_of_block hg0.own 1
  have c2 : W1.cell? ⟨w.heap.size + 1, 4, none⟩ = some (.int .i64 0) := Joins.cell_of_block hg0.own 4
  have c3 : W1.cell? ⟨w.heap.size + 1, 5, none⟩ = some (.int .i64 0) := Joins.cell_of_block hg0.own 5
  have cf := fun j => Joins.unfrozen_of_block hg0.own j
  clear hl0 hk0 hg0
  go_wp2_with fail
  refine wp_loop_rounds 5 ?_
  rw [rounds_succ]
  go_wp2_with fail
  rw [rounds_succ]
  go_wp2_with fail
  rw [rounds_succ]
  go_wp2_with fail
  rw [rounds_succ]
  go_wp2_with fail
  rw [rounds_succ]
  go_wp2_with fail
  refine wp_named ?_
  intro W2 hW
  have HG2 := Lib.hid (HG1.out.put0 (P00, P01, P02, P03))
  simp only at HG2
  rw [← hW] at HG2
  clear hW c0 c1 c2 c3 cf
  have HC1 := Lib.hid (lkids_ok lb b t B Lv bad S F q1 W2 (HG2.out.ar HI.out hn) HG2.out.at_ (HE.out 1))
  rw [← HP.out.2.1] at HC1
  unfold fourV at HC1
  simp only at HC1
  go_wp2_with fail
  refine HC1.out.mono ?_
  rintro e W3 ⟨rfl, hl1, hk1⟩
  have hg1 := HG2.out.kids hl1 hk1
  have HG3 := Lib.hid hg1
  have c0 : W3.cell? ⟨w.heap.size + 1, 2, none⟩ = some (.int .i64 0) := Joins.cell_of_block hg1.own 2
  have c1 : W3.cell? ⟨w.heap.size + 1, 3, none⟩ = some (.int .i64 0) := Joins.cell_of_block hg1.own 3
  have c2 : W3.cell? ⟨w.heap.size + 1, 6, none⟩ = some (.int .i64 0) := Joins.cell_of_block hg1.own 6
  have c3 : W3.cell? ⟨w.heap.size + 1, 7, none⟩ = some (.int .i64 0) := Joins.cell_of_block hg1.own 7
  have cf := fun j => Joins.unfrozen_of_block hg1.own j
  clear hl1 hk1 hg1
  go_wp2_with fail
  refine wp_loop_rounds 5 ?_
  rw [rounds_succ]
  go_wp2_with fail
  rw [rounds_succ]
  go_wp2_with fail
  rw [rounds_succ]
  go_wp2_with fail
  rw [rounds_succ]
  go_wp2_with fail
  rw [rounds_succ]
  go_wp2_with fail
  refine wp_named ?_
  intro W4 hW
  have HG4 := Lib.hid (HG3.out.put1 (P10, P11, P12, P13))
  simp only at HG4
  rw [← hW] at HG4
  clear hW c0 c1 c2 c3 cf
  have HC2 := Lib.hid (lkids_ok lb b t B Lv bad S F q2 W4 (HG4.out.ar HI.out hn) HG4.out.at_ (HE.out 2))
  rw [← HP.out.2.2.1] at HC2
  unfold fourV at HC2
  simp only at HC2
  go_wp2_with fail
  refine HC2.out.mono ?_
  rintro e W5 ⟨rfl, hl2, hk2⟩
  have hg2 := HG4.out.kids hl2 hk2
  have HG5 := Lib.hid hg2
  have c0 : W5.cell? ⟨w.heap.size + 1, 8, none⟩ = some (.int .i64 0) := Joins.cell_of_block hg2.own 8
  have c1 : W5.cell? ⟨w.heap.size + 1, 9, none⟩ = some (.int .i64 0) := Joins.cell_of_block hg2.own 9
  have c2 : W5.cell? ⟨w.heap.size + 1, 12, none⟩ = some (.int .i64 0) := Joins.cell_of_block hg2.own 12
  have c3 : W5.cell? ⟨w.heap.size + 1, 13, none⟩ = some (.int .i64 0) := Joins.cell_of_block hg2.own 13
  have cf := fun j => Joins.unfrozen_of_block hg2.own j
  clear hl2 hk2 hg2
  go_wp2_with fail
  refine wp_loop_rounds 5 ?_
  rw [rounds_succ]
  go_wp2_with fail
  rw [rounds_succ]
  go_wp2_with fail
  rw [rounds_succ]
  go_wp2_with fail
  rw [rounds_succ]
  go_wp2_with fail
  rw [rounds_succ]
  go_wp2_with fail
  refine wp_named ?_
  intro W6 hW
  have HG6 := Lib.hid (HG5.out.put2 (P20, P21, P22, P23))
  simp only at HG6
  rw [← hW] at HG6
  clear hW c0 c1 c2 c3 cf
  have HC3 := Lib.hid (lkids_ok lb b t B Lv bad S F q3 W6 (HG6.out.ar HI.out hn) HG6.out.at_ (HE.out 3))
  rw [← HP.out.2.2.2] at HC3
  unfold fourV at HC3
  simp only at HC3
  go_wp2_with fail
  refine HC3.out.mono ?_
  rintro e W7 ⟨rfl, hl3, hk3⟩
  have hg3 := HG6.out.kids hl3 hk3
  have HG7 := Lib.hid hg3
  have c0 : W7.cell? ⟨w.heap.size + 1, 10, none⟩ = some (.int .i64 0) := Joins.cell_of_block hg3.own 10
  have c1 : W7.cell? ⟨w.heap.size + 1, 11, none⟩ = some (.int .i64 0) := Joins.cell_of_block hg3.own 11
  have c2 : W7.cell? ⟨w.heap.size + 1, 14, none⟩ = some (.int .i64 0) := Joins.cell_of_block hg3.own 14
  have c3 : W7.cell? ⟨w.heap.size + 1, 15, none⟩ = some (.int .i64 0) := Joins.cell_of_block hg3.own 15
  have cf := fun j => Joins.unfrozen_of_block hg3.own j
  clear hl3 hk3 hg3
  go_wp2_with fail
  refine wp_loop_rounds 5 ?_
  rw [rounds_succ]
  go_wp2_with fail
  rw [rounds_succ]
  go_wp2_with fail
  rw [rounds_succ]
  go_wp2_with fail
  rw [rounds_succ]
  go_wp2_with fail
  rw [rounds_succ]
  go_wp2_with fail
  refine wp_named ?_
  intro W8 hW
  have HG8 := Lib.hid (HG7.out.put3 (P30, P31, P32, P33))
  simp only at HG8
  rw [← hW] at HG8
  clear hW c0 c1 c2 c3 cf
  have g0 : W8.cell? ⟨w.heap.size + 1, 0, none⟩ = some (.int .i64 P00) := Joins.cell_of_block HG8.out.own 0
  have g1 : W8.cell? ⟨w.heap.size + 1, 1, none⟩ = some (.int .i64 P01) := Joins.cell_of_block HG8.out.own 1
  have g2 : W8.cell? ⟨w.heap.size + 1, 2, none⟩ = some (.int .i64 P10) := Joins.cell_of_block HG8.out.own 2
  have g3 : W8.cell? ⟨w.heap.size + 1, 3, none⟩ = some (.int .i64 P11) := Joins.cell_of_block HG8.out.own 3
  have g4 : W8.cell? ⟨w.heap.size + 1, 4, none⟩ = some (.int .i64 P02) := Joins.cell_of_block HG8.out.own 4
  have g5 : W8.cell? ⟨w.heap.size + 1, 5, none⟩ = some (.int .i64 P03) := Joins.cell_of_block HG8.out.own 5
  have g6 : W8.cell? ⟨w.heap.size + 1, 6, none⟩ = some (.int .i64 P12) := Joins.cell_of_block HG8.out.own 6
  have g7 : W8.cell? ⟨w.heap.size + 1, 7, none⟩ = some (.int .i64 P13) := Joins.cell_of_block HG8.out.own 7
  have g8 : W8.cell? ⟨w.heap.size + 1, 8, none⟩ = some (.int .i64 P20) := Joins.cell_of_block HG8.out.own 8
  have g9 : W8.cell? ⟨w.heap.size + 1, 9, none⟩ = some (.int .i64 P21) := Joins.cell_of_block HG8.out.own 9
  have g10 : W8.cell? ⟨w.heap.size + 1, 10, none⟩ = some (.int .i64 P30) := Joins.cell_of_block HG8.out.own 10
  have g11 : W8.cell? ⟨w.heap.size + 1, 11, none⟩ = some (.int .i64 P31) := Joins.cell_of_block HG8.out.own 11
  have g12 : W8.cell? ⟨w.heap.size + 1, 12, none⟩ = some (.int .i64 P22) := Joins.cell_of_block HG8.out.own 12
  have g13 : W8.cell? ⟨w.heap.size + 1, 13, none⟩ = some (.int .i64 P23) := Joins.cell_of_block HG8.out.own 13
  have g14 : W8.cell? ⟨w.heap.size + 1, 14, none⟩ = some (.int .i64 P32) := Joins.cell_of_block HG8.out.own 14
  have g15 : W8.cell? ⟨w.heap.size + 1, 15, none⟩ = some (.int .i64 P33) := Joins.cell_of_block HG8.out.own 15
  have r0 : W8.cell? ⟨w.heap.size, 0, none⟩ = some (.int .i64 0) := Joins.cell_of_block HG8.out.res 0
  have r1 : W8.cell? ⟨w.heap.size, 1, none⟩ = some (.int .i64 0) := Joins.cell_of_block HG8.out.res 1
  have r2 : W8.cell? ⟨w.heap.size, 2, none⟩ = some (.int .i64 0) := Joins.cell_of_block HG8.out.res 2
  have r3 : W8.cell? ⟨w.heap.size, 3, none⟩ = some (.int .i64 0) := Joins.cell_of_block HG8.out.res 3
  have r4 : W8.cell? ⟨w.heap.size, 4, none⟩ = some (.int .i64 0) := Joins.cell_of_block HG8.out.res 4
  have r5 : W8.cell? ⟨w.heap.size, 5, none⟩ = some (.int .i64 0) := Joins.cell_of_block HG8.out.res 5
  have r6 : W8.cell? ⟨w.heap.size, 6, none⟩ = some (.int .i64 0) := Joins.cell_of_block HG8.out.res 6
  have r7 : W8.cell? ⟨w.heap.size, 7, none⟩ = some (.int .i64 0) := Joins.cell_of_block HG8.out.res 7
  have r8 : W8.cell? ⟨w.heap.size, 8, none⟩ = some (.int .i64 0) := Joins.cell_of_block HG8.out.res 8
  have r9 : W8.cell? ⟨w.heap.size, 9, none⟩ = some (.int .i64 0) := Joins.cell_of_block HG8.out.res 9
  have r10 : W8.cell? ⟨w.heap.size, 10, none⟩ = some (.int .i64 0) := Joins.cell_of_block HG8.out.res 10
  have r11 : W8.cell? ⟨w.heap.size, 11, none⟩ = some (.int .i64 0) := Joins.cell_of_block HG8.out.res 11
  have r12 : W8.cell? ⟨w.heap.size, 12, none⟩ = some (.int .i64 0) := Joins.cell_of_block HG8.out.res 12
  have r13 : W8.cell? ⟨w.heap.size, 13, none⟩ = some (.int .i64 0) := Joins.cell_of_block HG8.out.res 13
  have r14 : W8.cell? ⟨w.heap.size, 14, none⟩ = some (.int .i64 0) := Joins.cell_of_block HG8.out.res 14
  have r15 : W8.cell? ⟨w.heap.size, 15, none⟩ = some (.int .i64 0) := Joins.cell_of_block HG8.out.res 15
  have rf := fun j => Joins.unfrozen_of_block HG8.out.res j
  go_wp2_with fail
  refine bodyPost_ret (v := .agg (gArr (P00, P01, P02, P03) (P10, P11, P12, P13) (P20, P21, P22, P23) (P30, P31, P32, P33))) (results_cell_row (g := w.heap.size) (t := 99) (cs := gArr (P00, P01, P02, P03) (P10, P11, P12, P13) (P20, P21, P22, P23) (P30, P31, P32, P33)) (fr := (0, 0)) (d := _) rfl _ _ rfl (set16 HG8.out.res) rfl rfl rfl) rfl ⟨rfl, ?_, ?_⟩
  · repeat (with_reducible refine LAt.other ?_ (by simp only; omega) _)
    with_reducible exact HG8.out.at_
  · repeat (with_reducible refine Keeps.setCell ?_ (fun hp => by exfalso; simp only at hp; omega) _)
    with_reducible exact HG8.out.keep
end Go.Proofs.Ytabhpbkkjijfjaa
