/-
  container/heap over the arena's free numbers: up.
-/
import Derived.Test.YtabhpbkkjijfjaaGreatDoorZHouseLogsArRead
import Derived.Test.YtabhpbkkjijfjaaGreatDoorStage
namespace Go.Proofs.YtabhpbkkjijfjaaGreatDoor
set_option maxRecDepth 100000
open Go.RowKit

/-- A slice of numbers in the cell at p. -/
structure NumAt (b j : Nat) (l : List Nat) (v : Value) (w : World) : Prop where
  cell : w.cell? ⟨b, j, none⟩ = some v
  row : Row w 3 1 v l.length (l.map idV)
  ne : v.ownBlock ≠ some b
theorem less_any (l : List Nat) (i j x y : Nat) (a : Option Addr) (c : Nat) (w : World) (h : Row w 3 1 (.slice a l.length c) l.length (l.map idV)) (hx : l[i]? = some x) (hy : l[j]? = some y) :
    Calls Tryz.prog 231 #[.slice a l.length c, .int .i64 i, .int .i64 j] w fun e w' => e = .returned (.bool (decide (x < y))) ∧ ∃ k, w' = w.drewN k := by
  have hi := (List.getElem?_eq_some_iff.1 hx).1
  have hj := (List.getElem?_eq_some_iff.1 hy).1
  obtain ⟨g, o, rfl, hc, _, _⟩ := h.cells (by omega)
  have e1 : w.cell? ⟨g, o + i, none⟩ = some (.int .i64 x) := by rw [hc i (by omega), List.getElem?_map, hx]; rfl
  have e2 : w.cell? ⟨g, o + j, none⟩ = some (.int .i64 y) := by rw [hc j (by omega), List.getElem?_map, hy]; rfl
  obtain ⟨N, hN⟩ : ∃ N, N = l.length := ⟨_, rfl⟩
  rw [← hN] at hi hj ⊢
  clear h hc hx hy hN
  go_enter Tryz.func231, Tryz.ntmps231
  go_wp2_with fail
  go_quiet (fail)
  go_wp2_with fail
  go_ret
  exact ⟨by simp, _, rfl⟩
theorem row_frozen {w : World} {e : TypeId} {size n c g o : Nat} {xs : List Value} (h : Row w e size (.slice (some ⟨g, o, none⟩) n c) n xs) (j : Nat) : w.frozen? ⟨g, j, none⟩ = false := by
  rcases h.2 with ⟨h0, _⟩ | ⟨g', o', cap, cur, hv, hg, _⟩
  · cases h0
  · simp only [Value.slice.injEq, Option.some.injEq, Addr.mk.injEq, and_true, true_and] at hv
    obtain ⟨⟨rfl, rfl⟩, rfl⟩ := hv
    simp [World.frozen?, hg]
theorem idRow_at {w : World} {g o c : Nat} {xs : List Nat} (h : Row w 3 1 (.slice (some ⟨g, o, none⟩) xs.length c) xs.length (xs.map idV)) {i x : Nat} (hx : xs[i]? = some x) : w.cell? ⟨g, o + i, none⟩ = some (.int .i64 x) := by
  have hi := (List.getElem?_eq_some_iff.1 hx).1
  obtain ⟨g', o', e, hc, _, _⟩ := h.cells (by omega)
  simp only [Option.some.injEq, Addr.mk.injEq, and_true] at e
  obtain ⟨rfl, rfl⟩ := e
  rw [hc i (by omega), List.getElem?_map, hx]; rfl
theorem idRow_set {w : World} {g o c : Nat} {xs : List Nat} (h : Row w 3 1 (.slice (some ⟨g, o, none⟩) xs.length c) xs.length (xs.map idV)) (i y : Nat) : Row (w.setCell ⟨g, o + i, none⟩ (.int .i64 y)) 3 1 (.slice (some ⟨g, o, none⟩) (xs.set i y).length c) (xs.set i y).length ((xs.set i y).map idV) := by
  have h1 := h.stored i (.int .i64 y)
  rw [List.length_set, List.map_set]
  exact h1
set_option maxHeartbeats 1000000 in
set_option maxRecDepth 100000 in
theorem swap_any (xs : List Nat) (i j x y g o c : Nat) (w : World) (h : Row w 3 1 (.slice (some ⟨g, o, none⟩) xs.length c) xs.length (xs.map idV)) (hx : xs[i]? = some x) (hy : xs[j]? = some y) :
    Calls Tryz.prog 232 #[.slice (some ⟨g, o, none⟩) xs.length c, .int .i64 i, .int .i64 j] w fun e w' => e = .returned (.tuple #[]) ∧ Row w' 3 1 (.slice (some ⟨g, o, none⟩) xs.length c) xs.length (((xs.set i y).set j x).map idV) ∧ Keeps (fun k => k = g) w w' := by
  have hi := (List.getElem?_eq_some_iff.1 hx).1
  have hj := (List.getElem?_eq_some_iff.1 hy).1
  have h1 := idRow_set (w := w.drew) h i y
  have hy1 : (xs.set i y)[j]? = some y := by
    rw [List.getElem?_set]
    by_cases e : i = j
    · subst e; rw [if_pos rfl, if_pos hi]
    · rw [if_neg e]; exact hy
  have h2 := idRow_set h1 j x
  have q1 : w.drew.cell? ⟨g, o + i, none⟩ = some (.int .i64 x) := idRow_at (w := w.drew) h hx
  have q2 : w.drew.cell? ⟨g, o + j, none⟩ = some (.int .i64 y) := idRow_at (w := w.drew) h hy
  have q3 := idRow_at h1 hy1
  have q4 : w.cell? ⟨g, o + i, none⟩ = some (.int .i64 x) := q1
  have q5 : w.cell? ⟨g, o + j, none⟩ = some (.int .i64 y) := q2
  have f1 : w.frozen? ⟨g, o + i, none⟩ = false := row_frozen h _
  have f2 : w.frozen? ⟨g, o + j, none⟩ = false := row_frozen h _
  have f3 := row_frozen (idRow_set h i y) (o + j)
  have q6 := idRow_at (idRow_set h i y) hy1
  have hk : Keeps (fun k => k = g) w ((w.drew.setCell ⟨g, o + i, none⟩ (.int .i64 y)).setCell ⟨g, o + j, none⟩ (.int .i64 x)) := Keeps.setCell (p := ⟨g, o + j, none⟩) (Keeps.setCell (p := ⟨g, o + i, none⟩) (Keeps.refl (fun k => k = g) w).drew (fun _ => rfl) _) (fun _ => rfl) _
  have HK := Lib.hid hk
  have H2 := Lib.hid h2
  obtain ⟨N, hN⟩ : ∃ N, N = xs.length := ⟨_, rfl⟩
  have HN := Lib.hid hN
  rw [← hN] at hi hj ⊢
  clear h h1 h2 hk hx hy hy1 hN
  go_enter Tryz.func232, Tryz.ntmps232
  go_upto_region 0 with fail
  refine wp_region_stage (by kernel_rfl) (fun l w' => (l.getD 13 false = false → w'.cell? ⟨g, o + i, none⟩ = some (.int .i64 x)) ∧ (l.getD 15 false = false → w'.cell? ⟨g, o + j, none⟩ = some (.int .i64 y))) ⟨fun _ => q1, fun _ => q2⟩ ?_
  intro HS
  refine wpAnyT_take (i := 0) (v := ?_) rfl (by kernel_rfl) (by kernel_rfl) (by kernel_rfl) (fun _ _ _ h => h) (fun l w => by simp only [getD_set_ne false (show 0 ≠ 13 by decide), getD_set_ne false (show 0 ≠ 15 by decide)]) (by kernel_rfl) HS (Or.inl ⟨by rfl, ?_⟩) ?_
  rotate_left
  · rintro w' ⟨l, hc, hl, hs⟩; clear hs hc hl; go_simp; with_reducible rfl
  clear HS; intro HS
  refine wpAnyT_take (i := 1) (v := ?_) rfl (by kernel_rfl) (by kernel_rfl) (by kernel_rfl) (fun _ _ _ h => h) (fun l w => by simp only [getD_set_ne false (show 1 ≠ 13 by decide), getD_set_ne false (show 1 ≠ 15 by decide)]) (by kernel_rfl) HS (Or.inl ⟨by rfl, ?_⟩) ?_
  rotate_left
  · rintro w' ⟨l, hc, hl, hs⟩; clear hs hc hl; go_simp; with_reducible rfl
  clear HS; intro HS
  refine wpAnyT_take (i := 2) (v := ?_) rfl (by kernel_rfl) (by kernel_rfl) (by kernel_rfl) (fun _ _ _ h => h) (fun l w => by simp only [getD_set_ne false (show 2 ≠ 13 by decide), getD_set_ne false (show 2 ≠ 15 by decide)]) (by kernel_rfl) HS (Or.inl ⟨by rfl, ?_⟩) ?_
  rotate_left
  · rintro w' ⟨l, hc, hl, hs⟩; clear hs hc hl; go_simp; with_reducible rfl
  clear HS; intro HS
  refine wpAnyT_take (i := 3) (v := ?_) rfl (by kernel_rfl) (by kernel_rfl) (by kernel_rfl) (fun _ _ _ h => h) (fun l w => by simp only [getD_set_ne false (show 3 ≠ 13 by decide), getD_set_ne false (show 3 ≠ 15 by decide)]) (by kernel_rfl) HS (Or.inl ⟨by rfl, ?_⟩) ?_
  rotate_left
  · rintro w' ⟨l, hc, hl, hs⟩; clear hs hc hl; go_simp; with_reducible rfl
  clear HS; intro HS
  refine wpAnyT_take (i := 4) (v := ?_) rfl (by kernel_rfl) (by kernel_rfl) (by kernel_rfl) (fun _ _ _ h => h) (fun l w => by simp only [getD_set_ne false (show 4 ≠ 13 by decide), getD_set_ne false (show 4 ≠ 15 by decide)]) (by kernel_rfl) HS (Or.inl ⟨by rfl, ?_⟩) ?_
  rotate_left
  · rintro w' ⟨l, hc, hl, hs⟩; clear hs hc hl; go_simp; with_reducible rfl
  clear HS; intro HS
  refine wpAnyT_take (i := 5) (v := ?_) rfl (by kernel_rfl) (by kernel_rfl) (by kernel_rfl) (fun _ _ _ h => h) (fun l w => by simp only [getD_set_ne false (show 5 ≠ 13 by decide), getD_set_ne false (show 5 ≠ 15 by decide)]) (by kernel_rfl) HS (Or.inl ⟨by rfl, ?_⟩) ?_
  rotate_left
  · rintro w' ⟨l, hc, hl, hs⟩; clear hs hc hl; go_simp; with_reducible rfl
  clear HS; intro HS
  refine wpAnyT_take (i := 6) (v := ?_) rfl (by kernel_rfl) (by kernel_rfl) (by kernel_rfl) (fun _ _ _ h => h) (fun l w => by simp only [getD_set_ne false (show 6 ≠ 13 by decide), getD_set_ne false (show 6 ≠ 15 by decide)]) (by kernel_rfl) HS (Or.inl ⟨by rfl, ?_⟩) ?_
  rotate_left
  · rintro w' ⟨l, hc, hl, hs⟩; clear hs hc hl; go_simp; with_reducible rfl
  clear HS; intro HS
  refine wpAnyT_take (i := 7) (v := ?_) rfl (by kernel_rfl) (by kernel_rfl) (by kernel_rfl) (fun _ _ _ h => h) (fun l w => by simp only [getD_set_ne false (show 7 ≠ 13 by decide), getD_set_ne false (show 7 ≠ 15 by decide)]) (by kernel_rfl) HS (Or.inl ⟨by rfl, ?_⟩) ?_
  rotate_left
  · rintro w' ⟨l, hc, hl, hs⟩; have q := hs.2 (closed_pending hc hl (by kernel_rfl)); clear hs hc hl; go_simp; with_reducible rfl
  clear HS; intro HS
  refine wpAnyT_take (i := 8) (v := ?_) rfl (by kernel_rfl) (by kernel_rfl) (by kernel_rfl) (fun _ _ _ h => h) (fun l w => by simp only [getD_set_ne false (show 8 ≠ 13 by decide), getD_set_ne false (show 8 ≠ 15 by decide)]) (by kernel_rfl) HS (Or.inl ⟨by rfl, ?_⟩) ?_
  rotate_left
  · rintro w' ⟨l, hc, hl, hs⟩; clear hs hc hl; go_simp; with_reducible rfl
  clear HS; intro HS
  refine wpAnyT_take (i := 9) (v := ?_) rfl (by kernel_rfl) (by kernel_rfl) (by kernel_rfl) (fun _ _ _ h => h) (fun l w => by simp only [getD_set_ne false (show 9 ≠ 13 by decide), getD_set_ne false (show 9 ≠ 15 by decide)]) (by kernel_rfl) HS (Or.inl ⟨by rfl, ?_⟩) ?_
  rotate_left
  · rintro w' ⟨l, hc, hl, hs⟩; clear hs hc hl; go_simp; with_reducible rfl
  clear HS; intro HS
  refine wpAnyT_take (i := 10) (v := ?_) rfl (by kernel_rfl) (by kernel_rfl) (by kernel_rfl) (fun _ _ _ h => h) (fun l w => by simp only [getD_set_ne false (show 10 ≠ 13 by decide), getD_set_ne false (show 10 ≠ 15 by decide)]) (by kernel_rfl) HS (Or.inl ⟨by rfl, ?_⟩) ?_
  rotate_left
  · rintro w' ⟨l, hc, hl, hs⟩; clear hs hc hl; go_simp; with_reducible rfl
  clear HS; intro HS
  refine wpAnyT_take (i := 11) (v := ?_) rfl (by kernel_rfl) (by kernel_rfl) (by kernel_rfl) (fun _ _ _ h => h) (fun l w => by simp only [getD_set_ne false (show 11 ≠ 13 by decide), getD_set_ne false (show 11 ≠ 15 by decide)]) (by kernel_rfl) HS (Or.inl ⟨by rfl, ?_⟩) ?_
  rotate_left
  · rintro w' ⟨l, hc, hl, hs⟩; have q := hs.1 (closed_pending hc hl (by kernel_rfl)); clear hs hc hl; go_simp; with_reducible rfl
  clear HS; intro HS
  refine wpAnyT_take (i := 12) (v := ?_) rfl (by kernel_rfl) (by kernel_rfl) (by kernel_rfl) (fun _ _ _ h => h) (fun l w => by simp only [getD_set_ne false (show 12 ≠ 13 by decide), getD_set_ne false (show 12 ≠ 15 by decide)]) (by kernel_rfl) HS (Or.inl ⟨by rfl, ?_⟩) ?_
  rotate_left
  · rintro w' ⟨l, hc, hl, hs⟩; clear hs hc hl; go_simp; with_reducible rfl
  clear HS; intro HS
  refine wpAnyT_one (i := 13) rfl rfl (by kernel_rfl) (fun K hK => ?_)
  go_simp
  refine hK _ _ ⟨vac (by kernel_rfl), fun _ => q3⟩ (fun HS => ?_)
  clear hK K
  refine wpAnyT_take (i := 14) (v := ?_) rfl (by kernel_rfl) (by kernel_rfl) (by kernel_rfl) (fun _ _ _ h => h) (fun l w => by simp only [getD_set_ne false (show 14 ≠ 13 by decide), getD_set_ne false (show 14 ≠ 15 by decide)]) (by kernel_rfl) HS (Or.inl ⟨by rfl, ?_⟩) ?_
  rotate_left
  · rintro w' ⟨l, hc, hl, hs⟩; clear hs hc hl; go_simp; with_reducible rfl
  clear HS; intro HS
  refine wpAnyT_one (i := 15) rfl rfl (by kernel_rfl) (fun K hK => ?_)
  go_simp
  refine hK _ _ ⟨vac (by kernel_rfl), vac (by kernel_rfl)⟩ (fun HS => ?_)
  clear hK K
  refine wpAnyT_done (by kernel_rfl) ?_ _
  clear HS
  go_wp2_with fail
  go_end0
  refine ⟨rfl, ?_, HK.out⟩
  have := H2.out
  rw [List.length_set, List.length_set, ← HN.out] at this
  exact this
end Go.Proofs.YtabhpbkkjijfjaaGreatDoor
