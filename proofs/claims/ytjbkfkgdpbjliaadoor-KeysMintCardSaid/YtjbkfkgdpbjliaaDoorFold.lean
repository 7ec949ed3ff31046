/-
  The document's fold of a key's number: a closure over its variable.
-/
import Derived.Test.YtjbkfkgdpbjliaaDoorTimes
namespace Go.Proofs.YtjbkfkgdpbjliaaDoor
set_option maxRecDepth 100000
open Go.RowKit

/-- The variable z: a pointer to a whole number. -/
def ZAt (w : World) (c g n : Nat) : Prop := w.heap[c]? = some (.cells #[.pointer (some ⟨g, 0, none⟩)] 39 (0, 0)) ∧ BigAt w g n
def FoldS (c n : Nat) (w : World) (e : Ending) (w' : World) : Prop := e = .returned (.tuple #[]) ∧ (∃ g, w.heap.size ≤ g ∧ ZAt w' c g n) ∧ Keeps (fun i => i = c) w w'
theorem fold_st {w W w1 : World} {c z n g : Nat} (hz : ZAt w c z n) (hb : Below w.heap.size w W) (hk : Keeps (fun i => i = g) W w1) (hg : w.heap.size ≤ g) :
    Below w.heap.size w w1 ∧ w1.cell? ⟨c, 0, none⟩ = some (.pointer (some ⟨z, 0, none⟩)) ∧ w1.frozen? ⟨c, 0, none⟩ = false ∧ c < w1.heap.size ∧ w.heap.size ≤ w1.heap.size := by
  have h1 := hb.trans (hk.toBelow (B := w.heap.size) (fun i e => by omega) hb.size)
  have hl := lt_of_block hz.1
  exact ⟨h1, (h1.cell (p := ⟨c, 0, none⟩) hl).trans (Joins.cell_of_block hz.1 0), Joins.unfrozen_of_block ((h1.block c hl).trans hz.1) 0, Nat.lt_of_lt_of_le hl h1.size, h1.size⟩
theorem fold_z {w W : World} {c z n : Nat} (hz : ZAt w c z n) (hb : Below w.heap.size w W) : BigAt W z n := hz.2.below hb
theorem fold_c {w w1 : World} {c z n d g : Nat} (hz : ZAt w c z n) (hb : Below w.heap.size w w1) (h1 : BigAt w1 g d) (hn : n < bigTop) (hd : d < bigTop) :
    Calls Tryd.prog 22 #[.pointer (some ⟨w1.heap.size, 0, none⟩), .pointer (some ⟨z, 0, none⟩), .pointer (some ⟨g, 0, none⟩)] (w1.alloc (.cells #[.bool false, .slice none 0 0] 42)) fun e w' => e = .returned (.pointer (some ⟨w1.heap.size, 0, none⟩)) ∧ BigAt w' w1.heap.size (n ^^^ d) ∧ Keeps (fun i => i = w1.heap.size) w1 w' := by
  have hB : Below w1.heap.size w1 (w1.alloc (.cells #[.bool false, .slice none 0 0] 42)) := (Below.refl _ _).alloc (Nat.le_refl _) _
  have hblk : (w1.alloc (.cells #[.bool false, .slice none 0 0] 42)).heap[w1.heap.size]? = some (.cells #[.bool false, .slice none 0 0] 42 (0, 0)) := blk_last w1 _ rfl
  refine (bigXor_any w1.heap.size z g n d _ (BigAt.zero hblk).blk ((hz.2.below hb).below hB) (h1.below hB) hn hd).mono ?_
  rintro e w' ⟨h2, h3, h4⟩
  exact ⟨h2, h3, (Keeps.of_below (F := fun i => i = w1.heap.size) hB).trans h4 (fun _ _ h => h)⟩
theorem fold_end {w W w2 : World} {c z n g : Nat} (hz : ZAt w c z n) (hb : Below w.heap.size w W) (hk : Keeps (fun i => i = g) W w2) (hg : w.heap.size ≤ g) :
    Below w.heap.size w w2 ∧ w2.cell? ⟨c, 0, none⟩ = some (.pointer (some ⟨z, 0, none⟩)) ∧ w2.frozen? ⟨c, 0, none⟩ = false ∧ c < w2.heap.size := by
  obtain ⟨h1, h2, h3, h4, _⟩ := fold_st hz hb hk hg
  exact ⟨h1, h2, h3, h4⟩
theorem fold_fin {w w2 : World} {c z n g m : Nat} (hz : ZAt w c z n) (hb : Below w.heap.size w w2) (h1 : BigAt w2 g m) (hg : w.heap.size ≤ g) : (∃ z', w.heap.size ≤ z' ∧ ZAt (w2.setCell ⟨c, 0, none⟩ (.pointer (some ⟨g, 0, none⟩))) c z' m) ∧ Keeps (fun i => i = c) w (w2.setCell ⟨c, 0, none⟩ (.pointer (some ⟨g, 0, none⟩))) := by
  have hl := lt_of_block hz.1
  refine ⟨⟨g, hg, ?_, ?_⟩, Keeps.setCell (F := fun i => i = c) (Keeps.of_below hb) (p := ⟨c, 0, none⟩) (fun _ => rfl) _⟩
  · have := Joins.block_setCell (i := 0) ((hb.block c hl).trans hz.1) (.pointer (some ⟨g, 0, none⟩))
    simpa using this
  · obtain ⟨v, hb2, ha⟩ := h1
    have hne : c ≠ g := by omega
    refine ⟨v, (Below.heap_setCell _ _ _ _ hne.symm).trans hb2, ?_⟩
    refine ha.keepT fun b arr fr hbb => Below.heap_setCell _ _ _ _ ?_
    intro e
    simp only at e
    subst e
    rw [(hb.block b hl).trans hz.1] at hbb
    simp at hbb
set_option maxHeartbeats 4000000 in
theorem fold_gen (c z n k d : Nat) (w : World) (hz : ZAt w c z n) (hn : n < 18446744073709551616) (hd : d ≤ n)
    (hR : ∀ W g, BigBlk W g → BigAt W z n → Calls Tryd.prog 23 #[.pointer (some ⟨g, 0, none⟩), .pointer (some ⟨z, 0, none⟩), .int .u64 k] W fun e w' => e = .returned (.pointer (some ⟨g, 0, none⟩)) ∧ BigAt w' g d ∧ Keeps (fun i => i = g) W w') :
    Calls Tryd.prog 21 #[.int .u64 k, .pointer (some ⟨c, 0, none⟩)] w (FoldS c (n ^^^ d) w) := by
  have hw2 : Below w.heap.size w ((w.alloc (.cells #[.bool false, .slice none 0 0] 42)).alloc (.cells #[.bool false, .slice none 0 0] 42)).drew := (((Below.refl _ _).alloc (Nat.le_refl _) _).alloc (by simp) _).drew
  have hw1 : Below w.heap.size w (w.alloc (.cells #[.bool false, .slice none 0 0] 42)).drew := ((Below.refl _ _).alloc (Nat.le_refl _) _).drew
  have hA : BigBlk ((w.alloc (.cells #[.bool false, .slice none 0 0] 42)).alloc (.cells #[.bool false, .slice none 0 0] 42)).drew (w.heap.size + 1) := ⟨_, _, _, _, blk_last _ _ (by simp)⟩
  have hB : BigBlk ((w.alloc (.cells #[.bool false, .slice none 0 0] 42)).alloc (.cells #[.bool false, .slice none 0 0] 42)).drew w.heap.size := ⟨_, _, _, _, blk_alloc (blk_last w _ rfl) _⟩
  have hC : BigBlk (w.alloc (.cells #[.bool false, .slice none 0 0] 42)).drew w.heap.size := ⟨_, _, _, _, blk_last w _ rfl⟩
  have HW2 := Lib.hid hw2
  have HW1 := Lib.hid hw1
  have HA := Lib.hid hA
  have HB := Lib.hid hB
  have HC := Lib.hid hC
  have HZ2 := Lib.hid (hz.2.below hw2)
  have HZ1 := Lib.hid (hz.2.below hw1)
  have HR := Lib.hid hR
  have hc0 : w.cell? ⟨c, 0, none⟩ = some (.pointer (some ⟨z, 0, none⟩)) := Joins.cell_of_block hz.1 0
  have hcf : w.frozen? ⟨c, 0, none⟩ = false := Joins.unfrozen_of_block hz.1 0
  have HZ := Lib.hid hz
  have hcl := lt_of_block hz.1
  have hzl := hz.2.lt
  clear hR hz hw2 hw1 hA hB hC
  go_enter Tryd.func21, Tryd.ntmps21
  go_region_with (first | (go_at_call 23; first | (with_reducible refine (HR.out _ _ HA.out HZ2.out).mono ?_; rintro e w1 ⟨rfl, h1, h2⟩; obtain ⟨hb1, k1, f1, z1, zz1⟩ := fold_st HZ.out HW2.out h2 (by omega); have HXX := Lib.hid (bigXor_any w.heap.size z (w.heap.size + 1) n d w1 (HB.out.keep h2 (by omega)) (fold_z HZ.out hb1) h1 (by have := top_two; omega) (by have := top_two; omega)); have H1 := Lib.hid h1; have HB1 := Lib.hid hb1; clear h1 h2 hb1) | (with_reducible refine (HR.out _ _ HB.out HZ2.out).mono ?_; rintro e w1 ⟨rfl, h1, h2⟩; obtain ⟨hb1, k1, f1, z1, zz1⟩ := fold_st HZ.out HW2.out h2 (by omega); have HXX := Lib.hid (bigXor_any (w.heap.size + 1) z w.heap.size n d w1 (HA.out.keep h2 (by omega)) (fold_z HZ.out hb1) h1 (by have := top_two; omega) (by have := top_two; omega)); have H1 := Lib.hid h1; have HB1 := Lib.hid hb1; clear h1 h2 hb1) | (with_reducible refine (HR.out _ _ HC.out HZ1.out).mono ?_; rintro e w1 ⟨rfl, h1, h2⟩; obtain ⟨hb1, k1, f1, z1, zz1⟩ := fold_st HZ.out HW1.out h2 (by omega); have HXX := Lib.hid (fold_c HZ.out hb1 h1 (by have := top_two; omega) (by have := top_two; omega)); have H1 := Lib.hid h1; have HB1 := Lib.hid hb1; clear h1 h2 hb1)) | (go_at_call 22; with_reducible refine HXX.out.mono ?_; rintro e w2 ⟨rfl, h1, h2⟩; obtain ⟨hb2, k2, f2, z2⟩ := fold_end HZ.out HB1.out h2 (by omega); have H2 := Lib.hid h1; have HB2 := Lib.hid hb2; clear h1 h2 hb2))
  all_goals
    obtain ⟨hf1, hf2⟩ := fold_fin HZ.out HB2.out H2.out (by omega)
    have HF1 := Lib.hid hf1
    have HF2 := Lib.hid hf2
    clear hf1 hf2
    go_wp2_with fail
    go_end0
    exact ⟨rfl, HF1.out, HF2.out⟩
end Go.Proofs.YtjbkfkgdpbjliaaDoor
