/-
  A request in memory, stored whole; what a line's reading comes to.
-/
import Derived.Test.YtdmamecfmfhlmaaGreatDoorZSpeechWritesReaderCells
import Derived.Test.YtdmamecfmfhlmaaGreatDoorZSpeechWritesReaderRule
import Derived.Test.YtdmamecfmfhlmaaGreatDoorZSpeechWritesSplits
namespace Go.Proofs.YtdmamecfmfhlmaaGreatDoor
set_option maxRecDepth 100000
open Go.RowKit

def set7 (w : World) (g : Nat) (b0 b1 b2 b3 b4 b5 b6 : Value) : World := ((((((w.setCell ⟨g, 0, none⟩ b0).setCell ⟨g, 1, none⟩ b1).setCell ⟨g, 2, none⟩ b2).setCell ⟨g, 3, none⟩ b3).setCell ⟨g, 4, none⟩ b4).setCell ⟨g, 5, none⟩ b5).setCell ⟨g, 6, none⟩ b6
theorem set7_blk {w : World} {g : Nat} {ty : TypeId} {a0 a1 a2 a3 a4 a5 a6 : Value} (b0 b1 b2 b3 b4 b5 b6 : Value) (h : w.heap[g]? = some (.cells #[a0, a1, a2, a3, a4, a5, a6] ty (0, 0))) : (set7 w g b0 b1 b2 b3 b4 b5 b6).heap[g]? = some (.cells #[b0, b1, b2, b3, b4, b5, b6] ty (0, 0)) := by
  have h0 := Joins.block_setCell (i := 0) h b0
  simp only [List.setIfInBounds_toArray, List.set_cons_zero, List.set_cons_succ] at h0
  have h1 := Joins.block_setCell (i := 1) h0 b1
  simp only [List.setIfInBounds_toArray, List.set_cons_zero, List.set_cons_succ] at h1
  have h2 := Joins.block_setCell (i := 2) h1 b2
  simp only [List.setIfInBounds_toArray, List.set_cons_zero, List.set_cons_succ] at h2
  have h3 := Joins.block_setCell (i := 3) h2 b3
  simp only [List.setIfInBounds_toArray, List.set_cons_zero, List.set_cons_succ] at h3
  have h4 := Joins.block_setCell (i := 4) h3 b4
  simp only [List.setIfInBounds_toArray, List.set_cons_zero, List.set_cons_succ] at h4
  have h5 := Joins.block_setCell (i := 5) h4 b5
  simp only [List.setIfInBounds_toArray, List.set_cons_zero, List.set_cons_succ] at h5
  have h6 := Joins.block_setCell (i := 6) h5 b6
  simp only [List.setIfInBounds_toArray, List.set_cons_zero, List.set_cons_succ] at h6
  exact h6
theorem set7_other {w : World} {g i : Nat} (b0 b1 b2 b3 b4 b5 b6 : Value) (h : i ≠ g) : (set7 w g b0 b1 b2 b3 b4 b5 b6).heap[i]? = w.heap[i]? := by
  unfold set7
  repeat rw [Below.heap_setCell _ _ _ _ h]
theorem set7_keeps {w a : World} {F : Nat → Prop} {g : Nat} (b0 b1 b2 b3 b4 b5 b6 : Value) (h : Keeps F a w) (hg : g < a.heap.size → F g) : Keeps F a (set7 w g b0 b1 b2 b3 b4 b5 b6) := by
  unfold set7
  exact ((((((h.setCell hg _).setCell hg _).setCell hg _).setCell hg _).setCell hg _).setCell hg _).setCell hg _
theorem set7_size (w : World) (g : Nat) (b0 b1 b2 b3 b4 b5 b6 : Value) : (set7 w g b0 b1 b2 b3 b4 b5 b6).heap.size = w.heap.size := by unfold set7; simp
/-- A request's seven cells. -/
def Ask.cells' (q : Ask) (cv : Value) : List Value := [.int .i64 q.verb, .string (txt q.name), .string (txt q.other), .int .i64 q.b, .int .i64 q.l, .int .i64 q.n, cv]
/-- The answer of a reading. -/
def ReadsTo (w : World) (x : Int × Ask) (e : Ending) (w' : World) : Prop := ∃ cv, e = .returned (.tuple #[.agg (x.2.cells' cv).toArray, .int .i64 x.1]) ∧ Below w.heap.size w w' ∧ CellsAt w.heap.size w' cv x.2.cells
theorem seven {w : World} {g : Nat} {ty : TypeId} {a0 a1 a2 a3 a4 a5 a6 : Value} (h : w.heap[g]? = some (.cells #[a0, a1, a2, a3, a4, a5, a6] ty (0, 0))) :
    (w.cell? ⟨g, 0, none⟩ = some a0 ∧ w.cell? ⟨g, 1, none⟩ = some a1 ∧ w.cell? ⟨g, 2, none⟩ = some a2 ∧ w.cell? ⟨g, 3, none⟩ = some a3 ∧ w.cell? ⟨g, 4, none⟩ = some a4 ∧ w.cell? ⟨g, 5, none⟩ = some a5 ∧ w.cell? ⟨g, 6, none⟩ = some a6) ∧ ∀ j, w.frozen? ⟨g, j, none⟩ = false :=
  ⟨⟨Joins.cell_of_block h 0, Joins.cell_of_block h 1, Joins.cell_of_block h 2, Joins.cell_of_block h 3, Joins.cell_of_block h 4, Joins.cell_of_block h 5, Joins.cell_of_block h 6⟩, fun j => Joins.unfrozen_of_block h j⟩
theorem verb_txt (t : List UInt8) (k : Nat) : ((txt t).toList == (txt (verbT k)).toList) = decide (t = verbT k) := by
  rw [txt_toList, txt_toList, Bool.eq_iff_iff, beq_iff_eq, decide_eq_true_iff]
theorem wp_namedR {P : Program} {c : Code} {Q : Exit → Act → World → Prop} {a : Act} {w : World} (h : ∀ W, W = w → c.wp P Q a W) : c.wp P Q a w := h w rfl
def zero7 : Array Value := #[.int .i64 0, .string ⟨#[]⟩, .string ⟨#[]⟩, .int .i64 0, .int .i64 0, .int .i64 0, .slice none 0 0]
/-- The request's cells, the result's cells and the reader, side by side. -/
structure RSt (w W : World) (ts : List (List UInt8)) (bad : Bool) (b0 b1 b2 b3 b4 b5 b6 : Value) : Prop where
  res : W.heap[w.heap.size]? = some (.cells zero7 26 (0, 0))
  q : W.heap[w.heap.size + 3]? = some (.cells #[b0, b1, b2, b3, b4, b5, b6] 26 (0, 0))
  rd : Rd W (w.heap.size + 2) ts bad
  below : Below w.heap.size w W
abbrev RSt0 (w W : World) (ts : List (List UInt8)) (bad : Bool) : Prop := RSt w W ts bad (.int .i64 0) (.string ⟨#[]⟩) (.string ⟨#[]⟩) (.int .i64 0) (.int .i64 0) (.int .i64 0) (.slice none 0 0)
theorem RSt.start (w W : World) (ts : List (List UInt8)) (h0 : ts ≠ []) (hl : ts.length ≤ 10000) (hW : W = (((w.alloc (.cells zero7 26)).alloc (.cells (encS ts).toArray 9)).alloc (.cells #[.slice (some ⟨w.heap.size + 1, 0, none⟩) ts.length ts.length, .bool false] 47)).alloc (.cells zero7 26)) : RSt0 w W ts false := by
  subst hW
  have hz0 : ts.length ≠ 0 := fun e => h0 (List.length_eq_zero_iff.1 e)
  refine ⟨blk_alloc (blk_alloc (blk_alloc (blk_last w _ rfl) _) _) _, blk_last _ _ (by simp), ⟨.slice (some ⟨w.heap.size + 1, 0, none⟩) ts.length ts.length, blk_alloc (blk_last _ _ (by simp)) _, ?_⟩, ?_⟩
  · refine ⟨by rw [encS_len, Nat.mul_one], .inr ⟨w.heap.size + 1, 0, ts.length, (encS ts).toArray, rfl, blk_alloc (blk_alloc (blk_last _ _ (by simp)) _) _, Nat.le_refl _, by unfold maxLen; omega, by simp [encS_len], ?_⟩⟩
    have e : ((encS ts).toArray.toList.drop 0).take (ts.length * 1) = encS ts := by
      rw [Nat.mul_one, List.drop_zero]
      exact List.take_of_length_le (by show (encS ts).length ≤ _; rw [encS_len]; exact Nat.le_refl _)
    exact e
  · exact ((((Below.refl _ _).alloc (Nat.le_refl _) _).alloc (by simp) _).alloc (by simp; omega) _).alloc (by simp; omega) _
section
variable {w W W' : World} {ts ts' : List (List UInt8)} {b b' : Bool} {b0 b1 b2 b3 b4 b5 b6 : Value}
theorem RSt.next (h : RSt w W ts b b0 b1 b2 b3 b4 b5 b6) (hr : Rd W' (w.heap.size + 2) ts' b') (hk : Keeps (fun i => i = w.heap.size + 2) W W') : RSt w W' ts' b' b0 b1 b2 b3 b4 b5 b6 := by
  refine ⟨(hk.block _ (lt_of_block h.res) (by omega)).trans h.res, (hk.block _ (lt_of_block h.q) (by omega)).trans h.q, hr, ?_⟩
  exact h.below.trans (hk.toBelow (fun i e => by omega) h.below.size)
theorem Rd.far (h : Rd W (w.heap.size + 2) ts b) {g : Nat} {cs : Array Value} (hb : W.heap[g]? = some (.cells cs 26 (0, 0))) (hg : g ≠ w.heap.size + 2) (hk : ∀ i, i ≠ g → W'.heap[i]? = W.heap[i]?) : Rd W' (w.heap.size + 2) ts b := by
  obtain ⟨v, h1, h2⟩ := h
  exact ⟨v, (hk _ (fun e => hg e.symm)).trans h1, h2.keep (fun q hq => hk q (fun e => h2.ne_type hb (by decide) (by rw [hq, e])))⟩
theorem CellsAt.far {base : Nat} {v : Value} {zs : List (Int × Int)} (h : CellsAt base W v zs) {g : Nat} {cs : Array Value} (hb : W.heap[g]? = some (.cells cs 26 (0, 0))) (hk : ∀ i, i ≠ g → W'.heap[i]? = W.heap[i]?) : CellsAt base W' v zs :=
  ⟨h.1.keep (fun q hq => hk q (fun e => h.1.ne_type hb (by decide) (by rw [hq, e]))), h.2⟩
theorem CellsAt.lower {base B : Nat} {v : Value} {zs : List (Int × Int)} (h : CellsAt base W v zs) (hb : B ≤ base) : CellsAt B W v zs := ⟨h.1, fun g hg => Nat.le_trans hb (h.2 g hg)⟩
theorem RSt.wrote (h : RSt0 w W ts b) (b0 b1 b2 b3 b4 b5 b6 : Value) (hW : W' = set7 W (w.heap.size + 3) b0 b1 b2 b3 b4 b5 b6) : RSt w W' ts b b0 b1 b2 b3 b4 b5 b6 := by
  subst hW
  have hk := fun i (hi : i ≠ w.heap.size + 3) => set7_other (w := W) b0 b1 b2 b3 b4 b5 b6 hi
  refine ⟨(hk _ (by omega)).trans h.res, set7_blk _ _ _ _ _ _ _ h.q, h.rd.far h.q (by omega) hk, ?_⟩
  exact h.below.trans ((set7_keeps (F := fun i => i = w.heap.size + 3) b0 b1 b2 b3 b4 b5 b6 (Keeps.refl _ W) (fun _ => rfl)).toBelow (fun i e => by omega) h.below.size)
theorem RSt.cellsW (h : RSt0 w W ts b) {base : Nat} {v : Value} {zs : List (Int × Int)} (hc : CellsAt base W v zs) (hb : w.heap.size ≤ base) (hW : W' = set7 W (w.heap.size + 3) b0 b1 b2 b3 b4 b5 b6) : CellsAt w.heap.size W' v zs := by
  subst hW
  exact (hc.lower hb).far h.q fun i (hi : i ≠ w.heap.size + 3) => set7_other (w := W) b0 b1 b2 b3 b4 b5 b6 hi
theorem RSt.left (h : RSt w W ts b b0 b1 b2 b3 b4 b5 b6) : ∃ a c, W.cell? ⟨w.heap.size + 2, 0, none⟩ = some (.slice a ts.length c) ∧ W.cell? ⟨w.heap.size + 2, 1, none⟩ = some (.bool b) := by
  obtain ⟨v, h1, h2⟩ := h.rd
  obtain ⟨a, c, rfl, -⟩ := h2.form
  exact ⟨a, c, Joins.cell_of_block h1 0, Joins.cell_of_block h1 1⟩
/-- What stands in the result's cells behind the last store. -/
theorem RSt.told (h : RSt w W ts b b0 b1 b2 b3 b4 b5 b6) (c0 c1 c2 c3 c4 c5 c6 : Value) : ((set7 W w.heap.size c0 c1 c2 c3 c4 c5 c6).cell? ⟨w.heap.size, 0, none⟩ = some c0 ∧ (set7 W w.heap.size c0 c1 c2 c3 c4 c5 c6).cell? ⟨w.heap.size, 1, none⟩ = some c1 ∧ (set7 W w.heap.size c0 c1 c2 c3 c4 c5 c6).cell? ⟨w.heap.size, 2, none⟩ = some c2 ∧ (set7 W w.heap.size c0 c1 c2 c3 c4 c5 c6).cell? ⟨w.heap.size, 3, none⟩ = some c3 ∧ (set7 W w.heap.size c0 c1 c2 c3 c4 c5 c6).cell? ⟨w.heap.size, 4, none⟩ = some c4 ∧ (set7 W w.heap.size c0 c1 c2 c3 c4 c5 c6).cell? ⟨w.heap.size, 5, none⟩ = some c5 ∧ (set7 W w.heap.size c0 c1 c2 c3 c4 c5 c6).cell? ⟨w.heap.size, 6, none⟩ = some c6) :=
  (seven (set7_blk c0 c1 c2 c3 c4 c5 c6 (show W.heap[w.heap.size]? = some (.cells #[_, _, _, _, _, _, _] _ _) from h.res))).1
theorem RSt.belowT (h : RSt w W ts b b0 b1 b2 b3 b4 b5 b6) (c0 c1 c2 c3 c4 c5 c6 : Value) : Below w.heap.size w (set7 W w.heap.size c0 c1 c2 c3 c4 c5 c6) :=
  h.below.trans ((set7_keeps (F := fun i => i = w.heap.size) c0 c1 c2 c3 c4 c5 c6 (Keeps.refl _ W) (fun _ => rfl)).toBelow (fun i e => by omega) h.below.size)
theorem reads_no {x : Int × Ask} {n : Int} (h : Below w.heap.size w W) (hx : x = (n, Ask.no)) : ReadsTo w x (.returned (.tuple #[.agg zero7, .int .i64 n])) W := by
  subst hx
  exact ⟨.slice none 0 0, rfl, h, CellsAt.nil _ _⟩
theorem reads_err {x : Int × Ask} (h : RSt w W ts b b0 b1 b2 b3 b4 b5 b6) (hx : x = (2, Ask.no)) : ReadsTo w x (.returned (.tuple #[.agg #[.int .i64 0, .string ⟨#[]⟩, .string ⟨#[]⟩, .int .i64 0, .int .i64 0, .int .i64 0, .slice none 0 0], .int .i64 2])) (set7 W w.heap.size (.int .i64 0) (.string ⟨#[]⟩) (.string ⟨#[]⟩) (.int .i64 0) (.int .i64 0) (.int .i64 0) (.slice none 0 0)) := reads_no (h.belowT _ _ _ _ _ _ _) hx
theorem reads_ok {x : Int × Ask} {q : Ask} {cv : Value} (h : RSt w W ts b b0 b1 b2 b3 b4 b5 b6) (hx : x = (0, q)) (hq : [b0, b1, b2, b3, b4, b5, b6] = q.cells' cv) (hc : CellsAt w.heap.size W cv q.cells) : ReadsTo w x (.returned (.tuple #[.agg #[b0, b1, b2, b3, b4, b5, b6], .int .i64 0])) (set7 W w.heap.size b0 b1 b2 b3 b4 b5 b6) := by
  subst hx
  refine ⟨cv, ?_, h.belowT _ _ _ _ _ _ _, hc.far h.res fun i hi => set7_other _ _ _ _ _ _ _ hi⟩
  rw [← hq]
end
theorem endA_no {bad : Bool} {lf : List (List UInt8)} {q : Ask} (h : bad = true ∨ lf ≠ []) : endA bad lf q = none := by unfold endA; rw [if_pos h]
theorem endA_yes (q : Ask) : endA false [] q = some q := by unfold endA; rw [if_neg (by simp)]
theorem ask_of {C t0 : List UInt8} {r : List (List UInt8)} {k : Nat} (hC : C.length ≤ 6000) (hr : splC 32 C = t0 :: r) (hv : verbOf t0 = k) : askF C = askW k r := by
  unfold askF
  rw [if_neg (by omega), hr, List.headD_cons, List.tail_cons, hv]
theorem verb_of {T : ByteArray} {t0 l : List UInt8} (hT : T = txt t0) (h : (T.toList == l) = true) : t0 = l := by
  rw [hT, txt_toList] at h
  simpa using h
theorem verb_not {T : ByteArray} {t0 l : List UInt8} (hT : T = txt t0) (h : (T.toList == l) = false) : t0 ≠ l := by
  rw [hT, txt_toList] at h
  simpa using h
end Go.Proofs.YtdmamecfmfhlmaaGreatDoor
