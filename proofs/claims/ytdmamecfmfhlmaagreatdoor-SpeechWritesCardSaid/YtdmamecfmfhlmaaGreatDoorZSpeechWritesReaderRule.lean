/-
  The program's reader: a rule.
-/
import Derived.Test.YtdmamecfmfhlmaaGreatDoorZSpeechWritesReader
import Derived.Test.YtdmamecfmfhlmaaGreatDoorZSpeechWritesReads
namespace Go.Proofs.YtdmamecfmfhlmaaGreatDoor
set_option maxRecDepth 100000
open Go.RowKit

theorem Rd.other {w : World} {p q i : Nat} {ts : List (List UInt8)} {b : Bool} {cs : Array Value} (h : Rd w p ts b) (hb : w.heap[q]? = some (.cells cs 23 (0, 0))) (hq : q ≠ p) (u : Value) : Rd (w.setCell ⟨q, i, none⟩ u) p ts b := by
  obtain ⟨v, h1, h2⟩ := h
  exact ⟨v, (Below.heap_setCell _ _ _ _ (fun e => hq e.symm)).trans h1, h2.keep (fun g hg => Below.heap_setCell _ _ _ _ (fun e => h2.ne_type hb (by decide) (by rw [hg, e])))⟩
set_option maxHeartbeats 2000000 in
theorem readRule_any (p : Nat) (ts : List (List UInt8)) (bad : Bool) (w : World) (h : Rd w p ts bad) (hf : Fits ts) :
    Calls Tryz.prog 22 #[.pointer (some ⟨p, 0, none⟩)] w fun e w' => e = .returned (.agg #[.int .i64 (readF (ts.headD [])).1.1, .int .i64 (readF (ts.headD [])).1.2]) ∧ Rd w' p ts.tail (bad || ts.isEmpty || decide ((readF (ts.headD [])).2 ≠ 0)) ∧ Keeps (fun i => i = p) w w' := by
  have hbx : Below w.heap.size w (w.alloc (.cells #[.int .i64 0, .int .i64 0] 23)) := (Below.refl _ _).alloc (Nat.le_refl _) _
  have HW := Lib.hid (word_any p ts bad _ (h.below hbx))
  have HN := Lib.hid (fun w1 => read_any (ts.headD []) w1 (Nat.le_trans hf.head (by decide)))
  unfold ReadAs at HN
  obtain ⟨S, hS⟩ : ∃ S, S = txt (ts.headD []) := ⟨_, rfl⟩
  obtain ⟨b2, hb2⟩ : ∃ b2, b2 = (bad || ts.isEmpty) := ⟨_, rfl⟩
  obtain ⟨⟨⟨x, y⟩, z⟩, hx⟩ : ∃ x, x = readF (ts.headD []) := ⟨_, rfl⟩
  rw [← hS, ← hx] at HN
  rw [← hS, ← hb2] at HW
  rw [← hx, ← hb2]
  dsimp only
  obtain ⟨u, hu⟩ : ∃ u, u = (b2 || decide (z ≠ 0)) := ⟨_, rfl⟩
  have HU := Lib.hid hu
  rw [← hu]
  have HBX := Lib.hid hbx
  have hpl : p < w.heap.size := by obtain ⟨v, h1, _⟩ := h; exact lt_of_block h1
  clear hS hx hb2 h hf hbx hu
  go_enter Tryz.func22, Tryz.ntmps22
  go_wp2_with fail
  refine HW.out.mono ?_
  rintro e w1 ⟨rfl, h1, k1⟩
  have H1 := Lib.hid h1
  have K1 := Lib.hid k1
  clear h1 k1
  go_wp2_with fail
  refine (HN.out w1).mono ?_
  rintro e w2 ⟨rfl, hb⟩
  have H2 := Lib.hid (H1.out.below hb)
  have K2 := Lib.hid (K1.out.below hb)
  clear hb
  go_upto_region 2 with fail
  obtain ⟨Y, hY⟩ : ∃ Y, Y = w2.alloc (.cells #[.int .i64 x, .int .i64 y] 23) := ⟨_, rfl⟩
  rw [← hY]
  have hb3 : Below w2.heap.size w2 Y := by rw [hY]; exact (Below.refl _ _).alloc (Nat.le_refl _) _
  have y0 : Y.heap[w2.heap.size]? = some (.cells #[.int .i64 x, .int .i64 y] 23 (0, 0)) := by rw [hY]; exact blk_last w2 _ rfl
  have hr0 : w2.heap[w.heap.size]? = some (.cells #[.int .i64 0, .int .i64 0] 23 (0, 0)) := (K2.out.block _ (by simp) (by omega)).trans (blk_last w _ rfl)
  have hrl := lt_of_block hr0
  have hr1 := (hb3.block _ hrl).trans hr0
  have H3 := Lib.hid (H2.out.below hb3)
  have K3 := Lib.hid (K2.out.below hb3)
  obtain ⟨v, c0, c1, cf, cl, cs⟩ := rd_cells H3.out
  have hpw : p < w2.heap.size := by
    obtain ⟨v', h1, _⟩ := H2.out
    exact lt_of_block h1
  have CS := Lib.hid cs
  have HR1 := Lib.hid hr1
  have Y0 := Lib.hid y0
  clear hY hb3 y0 hr0 hr1 cs
  have main : ∀ (Z : World), Z = Y.setCell ⟨p, 1, none⟩ (.bool u) → Z.cell? ⟨w2.heap.size, 0, none⟩ = some (.int .i64 x) ∧ Z.cell? ⟨w2.heap.size, 1, none⟩ = some (.int .i64 y) ∧ Z.cell? ⟨w.heap.size, 0, none⟩ = some (.int .i64 0) ∧ Z.cell? ⟨w.heap.size, 1, none⟩ = some (.int .i64 0) ∧ Z.frozen? ⟨w.heap.size, 0, none⟩ = false ∧ Z.frozen? ⟨w.heap.size, 1, none⟩ = false := fun Z hZ => by
    subst hZ
    have e1 := (Below.heap_setCell Y ⟨p, 1, none⟩ (.bool u) w2.heap.size (by simp; omega)).trans Y0.out
    have e2 := (Below.heap_setCell Y ⟨p, 1, none⟩ (.bool u) w.heap.size (by simp; omega)).trans HR1.out
    exact ⟨Joins.cell_of_block e1 0, Joins.cell_of_block e1 1, Joins.cell_of_block e2 0, Joins.cell_of_block e2 1, Joins.unfrozen_of_block e2 0, Joins.unfrozen_of_block e2 1⟩
  have HM := Lib.hid main
  clear main
  cases b2 with
  | true =>
    have hu2 : u = true := by rw [HU.out]; rfl
    subst hu2
    go_upto_region 3 with fail
    obtain ⟨Z, hZ⟩ : ∃ Z, Z = Y.setCell ⟨p, 1, none⟩ (.bool true) := ⟨_, rfl⟩
    obtain ⟨q0, q1, q2, q3, q4, q5⟩ := HM.out Z hZ
    rw [← hZ]
    have HZ := Lib.hid hZ
    clear hZ c0 c1 cf
    go_wp2_with fail
    have e1 : Z.heap[w.heap.size]? = some (.cells #[.int .i64 0, .int .i64 0] 23 (0, 0)) := by
      rw [HZ.out]; exact (Below.heap_setCell Y ⟨p, 1, none⟩ _ w.heap.size (by simp; omega)).trans HR1.out
    have e2 := heap_setCell_same Z w.heap.size 0 _ _ (.int .i64 x) e1
    have e3 := heap_setCell_same _ w.heap.size 1 _ _ (.int .i64 y) e2
    have p0 := Joins.cell_of_block e3 0
    have p1 := Joins.cell_of_block e3 1
    simp at p0 p1
    refine bodyPost_ret (v := .agg #[.int .i64 x, .int .i64 y]) (by simp [results, Tryz.results22, go_sem, p0, p1]) rfl ⟨rfl, ?_, ?_⟩
    · have h1 := CS.out true
      rw [← HZ.out] at h1
      exact (h1.other e1 (by omega) _).other (heap_setCell_same _ _ _ _ _ _ e1) (by omega) _
    · have k1 : Keeps (fun i => i = p) w Y := (Keeps.of_below HBX.out).trans K3.out (fun _ _ h => h)
      have k2 : Keeps (fun i => i = p) w Z := by rw [HZ.out]; exact k1.setCell (p := ⟨p, 1, none⟩) (fun _ => rfl) _
      exact (k2.setCell (p := ⟨w.heap.size, 0, none⟩) (fun h => absurd h (Nat.lt_irrefl _)) _).setCell (p := ⟨w.heap.size, 1, none⟩) (fun h => absurd h (Nat.lt_irrefl _)) _
  | false =>
    by_cases hz : z = 0
    · have hu2 : u = false := by rw [HU.out, hz]; rfl
      subst hu2
      go_upto_region 3 with fail
      obtain ⟨Z, hZ⟩ : ∃ Z, Z = Y.setCell ⟨p, 1, none⟩ (.bool false) := ⟨_, rfl⟩
      obtain ⟨q0, q1, q2, q3, q4, q5⟩ := HM.out Z hZ
      rw [← hZ]
      have HZ := Lib.hid hZ
      clear hZ c0 c1 cf
      go_wp2_with fail
      have e1 : Z.heap[w.heap.size]? = some (.cells #[.int .i64 0, .int .i64 0] 23 (0, 0)) := by
        rw [HZ.out]; exact (Below.heap_setCell Y ⟨p, 1, none⟩ _ w.heap.size (by simp; omega)).trans HR1.out
      have e2 := heap_setCell_same Z w.heap.size 0 _ _ (.int .i64 x) e1
      have e3 := heap_setCell_same _ w.heap.size 1 _ _ (.int .i64 y) e2
      have p0 := Joins.cell_of_block e3 0
      have p1 := Joins.cell_of_block e3 1
      simp at p0 p1
      refine bodyPost_ret (v := .agg #[.int .i64 x, .int .i64 y]) (by simp [results, Tryz.results22, go_sem, p0, p1]) rfl ⟨rfl, ?_, ?_⟩
      · have h1 := CS.out false
        rw [← HZ.out] at h1
        exact (h1.other e1 (by omega) _).other (heap_setCell_same _ _ _ _ _ _ e1) (by omega) _
      · have k1 : Keeps (fun i => i = p) w Y := (Keeps.of_below HBX.out).trans K3.out (fun _ _ h => h)
        have k2 : Keeps (fun i => i = p) w Z := by rw [HZ.out]; exact k1.setCell (p := ⟨p, 1, none⟩) (fun _ => rfl) _
        exact (k2.setCell (p := ⟨w.heap.size, 0, none⟩) (fun h => absurd h (Nat.lt_irrefl _)) _).setCell (p := ⟨w.heap.size, 1, none⟩) (fun h => absurd h (Nat.lt_irrefl _)) _
    · have hu2 : u = true := by rw [HU.out]; simp [hz]
      subst hu2
      have hzb : (z != 0) = true := by simpa using hz
      go_upto_region 3 with fail
      obtain ⟨Z, hZ⟩ : ∃ Z, Z = Y.setCell ⟨p, 1, none⟩ (.bool true) := ⟨_, rfl⟩
      obtain ⟨q0, q1, q2, q3, q4, q5⟩ := HM.out Z hZ
      rw [← hZ]
      have HZ := Lib.hid hZ
      clear hZ c0 c1 cf
      go_wp2_with fail
      have e1 : Z.heap[w.heap.size]? = some (.cells #[.int .i64 0, .int .i64 0] 23 (0, 0)) := by
        rw [HZ.out]; exact (Below.heap_setCell Y ⟨p, 1, none⟩ _ w.heap.size (by simp; omega)).trans HR1.out
      have e2 := heap_setCell_same Z w.heap.size 0 _ _ (.int .i64 x) e1
      have e3 := heap_setCell_same _ w.heap.size 1 _ _ (.int .i64 y) e2
      have p0 := Joins.cell_of_block e3 0
      have p1 := Joins.cell_of_block e3 1
      simp at p0 p1
      refine bodyPost_ret (v := .agg #[.int .i64 x, .int .i64 y]) (by simp [results, Tryz.results22, go_sem, p0, p1]) rfl ⟨rfl, ?_, ?_⟩
      · have h1 := CS.out true
        rw [← HZ.out] at h1
        exact (h1.other e1 (by omega) _).other (heap_setCell_same _ _ _ _ _ _ e1) (by omega) _
      · have k1 : Keeps (fun i => i = p) w Y := (Keeps.of_below HBX.out).trans K3.out (fun _ _ h => h)
        have k2 : Keeps (fun i => i = p) w Z := by rw [HZ.out]; exact k1.setCell (p := ⟨p, 1, none⟩) (fun _ => rfl) _
        exact (k2.setCell (p := ⟨w.heap.size, 0, none⟩) (fun h => absurd h (Nat.lt_irrefl _)) _).setCell (p := ⟨w.heap.size, 1, none⟩) (fun h => absurd h (Nat.lt_irrefl _)) _
end Go.Proofs.YtdmamecfmfhlmaaGreatDoor
