/-
  What DecodeCells holds: two boxes of a rule, two numbers, beside a list of its own.
-/
import Derived.Test.YtffgpjkkgndkiaaBigOps
import Derived.Test.YtffgpjkkgndkiaaBigRead
import Derived.Test.YtffgpjkkgndkiaaBigText
import Derived.Test.YtffgpjkkgndkiaaTidies
namespace Go.Proofs.Ytffgpjkkgndkiaa
set_option maxRecDepth 100000
open Go.RowKit

structure DecSt (w wr : World) (B R px py : Nat) (r1 r2 : Int) (X Y : Nat) : Prop where
  b : wr.heap[B]? = some (.cells #[.int .i64 0, .int .i64 0] 24 (0, 0))
  r : wr.heap[R]? = some (.cells #[.int .i64 r1, .int .i64 r2] 24 (0, 0))
  x : BigAt wr px X
  y : BigAt wr py Y
  below : Below w.heap.size w wr
  hB : w.heap.size ≤ B
  hBR : B < R
  hRx : R < px
  hxy : px < py
section
variable {w wr wr' : World} {B R px py X Y Z : Nat} {r1 r2 : Int}
theorem DecSt.grow (h : DecSt w wr B R px py r1 r2 X Y) (hb : Below wr.heap.size wr wr') : DecSt w wr' B R px py r1 r2 X Y :=
  ⟨(hb.block _ (lt_of_block h.b)).trans h.b, (hb.block _ (lt_of_block h.r)).trans h.r, h.x.below hb, h.y.below hb, h.below.trans (hb.mono h.below.size), h.hB, h.hBR, h.hRx, h.hxy⟩
theorem DecSt.setX (h : DecSt w wr B R px py r1 r2 X Y) (hk : Keeps (fun i => i = px) wr wr') (hx : BigAt wr' px Z) : DecSt w wr' B R px py r1 r2 Z Y :=
  have h1 := h.hB
  have h2 := h.hBR
  have h3 := h.hRx
  have h4 := h.hxy
  ⟨(hk.block _ (lt_of_block h.b) (by omega)).trans h.b, (hk.block _ (lt_of_block h.r) (by omega)).trans h.r, hx, h.y.keep h.x.blk (by omega) hk, h.below.trans ((hk.toBelow (B := w.heap.size) (fun i hi => by omega) h.below.size)), h.hB, h.hBR, h.hRx, h.hxy⟩
theorem DecSt.setY (h : DecSt w wr B R px py r1 r2 X Y) (hk : Keeps (fun i => i = py) wr wr') (hy : BigAt wr' py Z) : DecSt w wr' B R px py r1 r2 X Z :=
  have h1 := h.hB
  have h2 := h.hBR
  have h3 := h.hRx
  have h4 := h.hxy
  ⟨(hk.block _ (lt_of_block h.b) (by omega)).trans h.b, (hk.block _ (lt_of_block h.r) (by omega)).trans h.r, h.x.keep h.y.blk (by omega) hk, hy, h.below.trans ((hk.toBelow (B := w.heap.size) (fun i hi => by omega) h.below.size)), h.hB, h.hBR, h.hRx, h.hxy⟩
theorem BigAt.row {base p n q : Nat} {v : Value} {fl : List Value} (h : BigAt wr p n) (hg : wr.grownBy wr' v.ownBlock) (ho : wr.ownsRow base 72 2 v q fl) (hp : p < base) : BigAt wr' p n := by
  obtain ⟨u, hb, ha⟩ := h
  have hne : ∀ (b : Nat) (arr : Array Value) (ty : TypeId) (fr : Nat × Nat), wr.heap[b]? = some (.cells arr ty fr) → ty ≠ 72 → some b ≠ v.ownBlock := fun b arr ty fr hb hty he => by
    rcases ho.2 with ⟨rfl, _⟩ | ⟨g, cap, cur, rfl, _, h2, _⟩
    · simp [Value.ownBlock] at he
    · simp [Value.ownBlock] at he
      subst he
      rw [hb] at h2
      simp at h2
      exact hty h2.2.1
  exact ⟨u, (hg.block p (lt_of_block hb) (own_ne ho hp)).trans hb, ha.keepT fun b arr fr hb2 => hg.block b (lt_of_block hb2) (hne b arr _ fr hb2 (by decide))⟩
theorem DecSt.row {q : Nat} {v : Value} {fl : List Value} (h : DecSt w wr B R px py r1 r2 X Y) (hg : wr.grownBy wr' v.ownBlock) (ho : wr.ownsRow (py + 1) 72 2 v q fl) : DecSt w wr' B R px py r1 r2 X Y :=
  have h1 := h.hB
  have h2 := h.hBR
  have h3 := h.hRx
  have h4 := h.hxy
  ⟨(hg.block _ (lt_of_block h.b) (own_ne ho (by omega))).trans h.b, (hg.block _ (lt_of_block h.r) (own_ne ho (by omega))).trans h.r, h.x.row hg ho (by omega), h.y.row hg ho (by omega), h.below.grown hg h.below.size (fun k hk => by have := (ho.lt k hk).1; omega), h.hB, h.hBR, h.hRx, h.hxy⟩
theorem DecSt.aside {q : Nat} (h : DecSt w wr B R px py r1 r2 X Y) (hk : Keeps (fun i => i = q) wr wr') (hq : BigBlk wr q) (hpy : py < q) : DecSt w wr' B R px py r1 r2 X Y :=
  have h1 := h.hB
  have h2 := h.hBR
  have h3 := h.hRx
  have h4 := h.hxy
  ⟨(hk.block _ (lt_of_block h.b) (by omega)).trans h.b, (hk.block _ (lt_of_block h.r) (by omega)).trans h.r, h.x.keep hq (by omega) hk, h.y.keep hq (by omega) hk, h.below.trans (hk.toBelow (B := w.heap.size) (fun i hi => by omega) h.below.size), h.hB, h.hBR, h.hRx, h.hxy⟩
theorem own_asides {base p q : Nat} {v : Value} {fl : List Value} (ho : wr.ownsRow base 72 2 v q fl) (hk : Keeps (fun i => i = p) wr wr') (hp : v.ownBlock ≠ some p) : wr'.ownsRow base 72 2 v q fl :=
  ho.kept (w' := wr') (row := some p) ⟨hk.os, hk.tape, hk.output, hk.size, fun i hi h => hk.block i hi (fun e => h (by rw [e]))⟩ (.inr hp)
/-- A list of one's own keeps when an old block is filled. -/
theorem own_keeps {base p q : Nat} {v : Value} {fl : List Value} (ho : wr.ownsRow base 72 2 v q fl) (hk : Keeps (fun i => i = p) wr wr') (hp : p < base) : wr'.ownsRow base 72 2 v q fl :=
  ho.kept (w' := wr') (row := some p) ⟨hk.os, hk.tape, hk.output, hk.size, fun i hi h => hk.block i hi (fun e => h (by rw [e]))⟩ (.inr fun e => by have := (ho.lt p e).1; omega)
end
end Go.Proofs.Ytffgpjkkgndkiaa
