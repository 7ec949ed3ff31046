/-
  A head line of a pattern's text: plain lists.
-/
import Derived.Test.YtffgpjkkgndkiaaRefStarts
import Derived.Test.YtffgpjkkgndkiaaStrs2
import Derived.Test.YtffgpjkkgndkiaaRefReads
namespace Go.Proofs.Ytffgpjkkgndkiaa
set_option maxRecDepth 100000
open Go.RowKit

def xE : List UInt8 := [120, 32, 61, 32]
def yE : List UInt8 := [44, 32, 121, 32, 61, 32]
def rE : List UInt8 := [44, 32, 114, 117, 108, 101, 32, 61, 32]
def aftN (l : List UInt8) : List UInt8 := l.drop (digs l)
def valN (l : List UInt8) : Nat := decV (l.take (digs l))
def headR (l : List UInt8) : Option (Int × Int) :=
  if l = [] then some (8, 12) else if preB rE l = true then (if (readF (l.drop 9)).2 = 0 then some (readF (l.drop 9)).1 else none) else none
def headF (l : List UInt8) : Option ((Nat × Nat) × (Int × Int)) :=
  if preB xE l = true ∧ okN (l.drop 4) = true ∧ preB yE (aftN (l.drop 4)) = true ∧ okN ((aftN (l.drop 4)).drop 6) = true then
    (headR (aftN ((aftN (l.drop 4)).drop 6))).map fun r => ((valN (l.drop 4), valN ((aftN (l.drop 4)).drop 6)), r)
  else none
def HeadAs (w : World) (x : Option ((Nat × Nat) × (Int × Int))) (e : Ending) (w' : World) : Prop :=
  ∃ (a b c d : Int) (g : Bool), e = .returned (.tuple #[.int .i64 a, .int .i64 b, .agg #[.int .i64 c, .int .i64 d], .bool g]) ∧ Below w.heap.size w w' ∧
    ((x = none ∧ g = false) ∨ (∃ n m r, x = some ((n, m), r) ∧ g = true ∧ a = (n : Nat) ∧ b = (m : Nat) ∧ c = r.1 ∧ d = r.2))
theorem HeadAs.no {w w' : World} {x : Option ((Nat × Nat) × (Int × Int))} (hx : x = none) (a b c d : Int) (hb : Below w.heap.size w w') : HeadAs w x (.returned (.tuple #[.int .i64 a, .int .i64 b, .agg #[.int .i64 c, .int .i64 d], .bool false])) w' :=
  ⟨a, b, c, d, false, rfl, hb, .inl ⟨hx, rfl⟩⟩
theorem HeadAs.yes {w w' : World} {x : Option ((Nat × Nat) × (Int × Int))} {n m : Nat} {c d : Int} (hx : x = some ((n, m), (c, d))) (hb : Below w.heap.size w w') : HeadAs w x (.returned (.tuple #[.int .i64 n, .int .i64 m, .agg #[.int .i64 c, .int .i64 d], .bool true])) w' :=
  ⟨n, m, c, d, true, rfl, hb, .inr ⟨n, m, (c, d), hx, rfl, rfl, rfl, rfl, rfl⟩⟩
/-- A box of two numbers, filled anew. -/
theorem box_store {W : World} {b : Nat} {x y : Value} {ty : TypeId} (h : W.heap[b]? = some (.cells #[x, y] ty (0, 0))) (u v : Value) :
    ((W.setCell ⟨b, 0, none⟩ u).setCell ⟨b, 1, none⟩ v).cell? ⟨b, 0, none⟩ = some u ∧ ((W.setCell ⟨b, 0, none⟩ u).setCell ⟨b, 1, none⟩ v).cell? ⟨b, 1, none⟩ = some v := by
  have h2 := Joins.block_setCell (Joins.block_setCell h (i := 0) u) (i := 1) v
  exact ⟨by rw [Joins.cell_of_block h2]; simp, by rw [Joins.cell_of_block h2]; simp⟩
section
variable {l : List UInt8}
theorem headF_no1 (h : preB xE l = false) : headF l = none := by rw [headF, if_neg]; rintro ⟨h1, _⟩; rw [h] at h1; cases h1
theorem headF_no2 (h : okN (l.drop 4) = false) : headF l = none := by rw [headF, if_neg]; rintro ⟨_, h1, _⟩; rw [h] at h1; cases h1
theorem headF_no3 (h : preB yE (aftN (l.drop 4)) = false) : headF l = none := by rw [headF, if_neg]; rintro ⟨_, _, h1, _⟩; rw [h] at h1; cases h1
theorem headF_no4 (h : okN ((aftN (l.drop 4)).drop 6) = false) : headF l = none := by rw [headF, if_neg]; rintro ⟨_, _, _, h1⟩; rw [h] at h1; cases h1
theorem headF_in (h1 : preB xE l = true) (h2 : okN (l.drop 4) = true) (h3 : preB yE (aftN (l.drop 4)) = true) (h4 : okN ((aftN (l.drop 4)).drop 6) = true) :
    headF l = (headR (aftN ((aftN (l.drop 4)).drop 6))).map fun r => ((valN (l.drop 4), valN ((aftN (l.drop 4)).drop 6)), r) := by rw [headF, if_pos ⟨h1, h2, h3, h4⟩]
end
/-- The two boxes of a head's rule: what is handed back (B), and what is held (B + 1). -/
structure HBox (w W : World) (B : Nat) (c d : Int) : Prop where
  b0 : W.heap[B]? = some (.cells #[.int .i64 0, .int .i64 0] 24 (0, 0))
  b1 : W.heap[B + 1]? = some (.cells #[.int .i64 c, .int .i64 d] 24 (0, 0))
  below : Below w.heap.size w W
  le : w.heap.size ≤ B
theorem HBox.start (w : World) : HBox w ((w.alloc (.cells #[.int .i64 0, .int .i64 0] 24)).alloc (.cells #[.int .i64 8, .int .i64 12] 24)) w.heap.size 8 12 :=
  ⟨blk_alloc (blk_last w _ rfl) _, blk_last _ _ (by simp), ((Below.refl _ _).alloc (Nat.le_refl _) _).alloc (by simp) _, Nat.le_refl _⟩
theorem HBox.grow {w W W' : World} {B : Nat} {c d : Int} (h : HBox w W B c d) (hb : Below W.heap.size W W') : HBox w W' B c d :=
  ⟨(hb.block _ (lt_of_block h.b0)).trans h.b0, (hb.block _ (lt_of_block h.b1)).trans h.b1, h.below.trans (hb.mono h.below.size), h.le⟩
theorem HBox.store {w W : World} {B : Nat} {c d : Int} (h : HBox w W B c d) (c' d' : Int) : HBox w ((W.setCell ⟨B + 1, 0, none⟩ (.int .i64 c')).setCell ⟨B + 1, 1, none⟩ (.int .i64 d')) B c' d' where
  b0 := by rw [Below.heap_setCell _ _ _ _ (by simp), Below.heap_setCell _ _ _ _ (by simp)]; exact h.b0
  b1 := by
    have h2 := Joins.block_setCell (Joins.block_setCell h.b1 (i := 0) (.int .i64 c')) (i := 1) (.int .i64 d')
    simpa using h2
  below := (h.below.setCell (p := ⟨B + 1, 0, none⟩) (by show _ ≤ B + 1; have := h.le; omega) _).setCell (p := ⟨B + 1, 1, none⟩) (by show _ ≤ B + 1; have := h.le; omega) _
  le := h.le
theorem HBox.ends {w W : World} {B : Nat} {c d : Int} (h : HBox w W B c d) : (W.cell? ⟨B + 1, 0, none⟩ = some (.int .i64 c) ∧ W.cell? ⟨B + 1, 1, none⟩ = some (.int .i64 d) ∧ W.frozen? ⟨B, 0, none⟩ = false ∧ W.frozen? ⟨B, 1, none⟩ = false ∧ W.cell? ⟨B, 0, none⟩ = some (.int .i64 0) ∧ W.cell? ⟨B, 1, none⟩ = some (.int .i64 0)) ∧
    ((W.setCell ⟨B, 0, none⟩ (.int .i64 c)).setCell ⟨B, 1, none⟩ (.int .i64 d)).cell? ⟨B, 0, none⟩ = some (.int .i64 c) ∧ ((W.setCell ⟨B, 0, none⟩ (.int .i64 c)).setCell ⟨B, 1, none⟩ (.int .i64 d)).cell? ⟨B, 1, none⟩ = some (.int .i64 d) ∧
    Below w.heap.size w ((W.setCell ⟨B, 0, none⟩ (.int .i64 c)).setCell ⟨B, 1, none⟩ (.int .i64 d)).drew ∧ B + 1 < W.heap.size :=
  ⟨⟨Joins.cell_of_block h.b1 0, Joins.cell_of_block h.b1 1, Joins.unfrozen_of_block h.b0 0, Joins.unfrozen_of_block h.b0 1, Joins.cell_of_block h.b0 0, Joins.cell_of_block h.b0 1⟩, (box_store (W := W) h.b0 _ _).1, (box_store (W := W) h.b0 _ _).2,
    ((h.below.setCell (p := ⟨B, 0, none⟩) h.le _).setCell (p := ⟨B, 1, none⟩) h.le _).drew, lt_of_block h.b1⟩
end Go.Proofs.Ytffgpjkkgndkiaa
