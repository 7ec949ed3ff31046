/-
  For every config, house.Check answers what the document's CheckConfig answers; no condition.
-/
import Derived.Test.YtghginiipknoeaaChecks
namespace Go.Proofs.Ytghginiipknoeaa
open Go.RowKit

theorem infoInt : (Try.prog.info? 3).map (fun i => (i.zero, i.size, i.bytes)) = some (some (.int .i64 0), 1, 8) := by kernel_rfl
theorem below_other {B : Nat} {a w : World} {o o' : Obj} (h : Below B a (w.alloc o)) (hB : B ≤ w.heap.size) : Below B a (w.alloc o') :=
  ⟨h.os, h.tape, h.output, by have := h.size; simpa using this, fun k hk => by
    have h1 := h.block k hk
    rw [Below.heap_alloc _ _ _ (by omega)] at h1 ⊢
    exact h1⟩
theorem sl_own_is {w : World} {base : Nat} {e : TypeId} {k bytes n : Nat} {a : Option Addr} {cap : Nat} {fl : List Value} (h : w.ownsRow base e k (.slice a n cap) n fl) (hb : n * bytes ≤ 140737488351232) : Sl w k bytes a n cap fl := by
  obtain ⟨a', c', e1, hs⟩ := sl_of_own h hb
  simp only [Value.slice.injEq, true_and] at e1
  obtain ⟨rfl, rfl⟩ := e1
  exact hs
theorem check_empty (w : World) : Calls Try.prog 24 #[.agg #[.int .i64 0, .slice none 0 0]] w fun e w' => e = .returned (.int .i64 3) ∧ Below w.heap.size w w' := by
  have := check_any 0 [] none 0 w ⟨rfl, Nat.le_refl _, by simp [maxLen], fun _ => rfl, by simp, fun h => by simp at h⟩
  simpa [checkF, wrongC] using this

set_option maxRecDepth 100000 in
set_option maxHeartbeats 2000000 in
theorem law_checks (room : Int) (qs : List Int) (a : Option Addr) (cap : Nat) (w : World) (hs : Sl w 1 8 a qs.length cap (qs.flatMap encInt)) :
    Calls Try.prog 7 #[.agg #[.int .i64 room, .slice a qs.length cap]] w fun e w' => e = .returned (.bool true) ∧ Below w.heap.size w w' := by
  obtain ⟨i0, hi, hz0, hz1, hz2⟩ := info_parts infoInt
  have hwide := hs.wide
  by_cases hz : qs.length = 0
  · have hq : qs = [] := List.eq_nil_of_length_eq_zero hz
    subst hq
    clear hz hwide
    have sT : ∀ W2, Sl W2 1 8 none ([] : List Int).length 0 (([] : List Int).flatMap encInt) := fun W2 => ⟨rfl, Nat.le_refl _, by simp [maxLen], fun _ => rfl, by simp, fun h => by simp at h⟩
    cases a with
    | none =>
      go_enter Try.func7, Try.ntmps7
      go_wp2_with fail
      go_region
      obtain ⟨W2, hW2⟩ : ∃ W2, W2 = ((w.alloc (.cells #[.int .i64 room, .slice none 0 cap] 47)).alloc (.cells #[.int .i64 room, .slice none 0 0] 47)).drew := ⟨_, rfl⟩
      rw [← hW2]
      obtain ⟨t, ht⟩ : ∃ t, t = w.heap.size + 1 := ⟨_, rfl⟩
      rw [← ht]
      have kT : W2.heap[t]? = some (.cells #[.int .i64 room, .slice none 0 0] 47 (0, 0)) := by subst hW2; exact blk_last _ _ (by rw [ht]; simp)
      have kS : W2.heap[w.heap.size]? = some (.cells #[.int .i64 room, .slice none 0 cap] 47 (0, 0)) := by subst hW2; exact blk_alloc (blk_last w _ rfl) _
      have bW : Below w.heap.size w W2 := by subst hW2; exact (((Below.refl _ _).alloc (Nat.le_refl _) _).alloc (by simp) _).drew
      have sS := hs.below (by omega) bW
      have sT := sT W2
      clear hW2 ht
      have x0 : ∀ x : Grow W2, x.val.cell? ⟨t, 0, none⟩ = some (.int .i64 room) := Grow.cells (Joins.cell_of_block kT 0)
      have x1 : ∀ x : Grow W2, x.val.cell? ⟨t, 1, none⟩ = some (.slice none ([] : List Int).length 0) := Grow.cells (Joins.cell_of_block kT 1)
      have y0 : ∀ x : Grow W2, x.val.cell? ⟨w.heap.size, 0, none⟩ = some (.int .i64 room) := Grow.cells (Joins.cell_of_block kS 0)
      have y1 : ∀ x : Grow W2, x.val.cell? ⟨w.heap.size, 1, none⟩ = some (.slice none ([] : List Int).length cap) := Grow.cells (Joins.cell_of_block kS 1)
      clear kT kS
      go_wp2_with fail
      refine wp_region_grow (by kernel_rfl) (by kernel_rfl) ?_
      repeat (go_big_quiet_step (first | (go_at_call 24; first | (with_reducible exact grow_of (check_empty _)) | (with_reducible exact grow_of (check_any _ _ _ _ _ (sT.grow (by omega) _)))) | (go_at_call 25; with_reducible exact grow_of (refCheck_any _ _ _ _ _ (sS.grow (by omega) _)))))
      refine wpQuiet_nil ?_
      intro _ hw'
      obtain ⟨x, hx⟩ := hw'
      subst hx
      go_wp2
      go_ret
      exact ⟨rfl, bW.trans (x.below.mono bW.size)⟩
    | some ad =>
      go_enter Try.func7, Try.ntmps7
      go_wp2_with fail
      go_region
      obtain ⟨W2, hW2⟩ : ∃ W2, W2 = ((w.alloc (.cells #[.int .i64 room, .slice (some ad) 0 cap] 47)).alloc (.cells #[.int .i64 room, .slice none 0 0] 47)).drew := ⟨_, rfl⟩
      rw [← hW2]
      obtain ⟨t, ht⟩ : ∃ t, t = w.heap.size + 1 := ⟨_, rfl⟩
      rw [← ht]
      have kT : W2.heap[t]? = some (.cells #[.int .i64 room, .slice none 0 0] 47 (0, 0)) := by subst hW2; exact blk_last _ _ (by rw [ht]; simp)
      have kS : W2.heap[w.heap.size]? = some (.cells #[.int .i64 room, .slice (some ad) 0 cap] 47 (0, 0)) := by subst hW2; exact blk_alloc (blk_last w _ rfl) _
      have bW : Below w.heap.size w W2 := by subst hW2; exact (((Below.refl _ _).alloc (Nat.le_refl _) _).alloc (by simp) _).drew
      have sS := hs.below (by omega) bW
      have sT := sT W2
      clear hW2 ht
      have x0 : ∀ x : Grow W2, x.val.cell? ⟨t, 0, none⟩ = some (.int .i64 room) := Grow.cells (Joins.cell_of_block kT 0)
      have x1 : ∀ x : Grow W2, x.val.cell? ⟨t, 1, none⟩ = some (.slice none ([] : List Int).length 0) := Grow.cells (Joins.cell_of_block kT 1)
      have y0 : ∀ x : Grow W2, x.val.cell? ⟨w.heap.size, 0, none⟩ = some (.int .i64 room) := Grow.cells (Joins.cell_of_block kS 0)
      have y1 : ∀ x : Grow W2, x.val.cell? ⟨w.heap.size, 1, none⟩ = some (.slice (some ad) ([] : List Int).length cap) := Grow.cells (Joins.cell_of_block kS 1)
      clear kT kS
      go_wp2_with fail
      refine wp_region_grow (by kernel_rfl) (by kernel_rfl) ?_
      repeat (go_big_quiet_step (first | (go_at_call 24; first | (with_reducible exact grow_of (check_empty _)) | (with_reducible exact grow_of (check_any _ _ _ _ _ (sT.grow (by omega) _)))) | (go_at_call 25; with_reducible exact grow_of (refCheck_any _ _ _ _ _ (sS.grow (by omega) _)))))
      refine wpQuiet_nil ?_
      intro _ hw'
      obtain ⟨x, hx⟩ := hw'
      subst hx
      go_wp2
      go_ret
      exact ⟨rfl, bW.trans (x.below.mono bW.size)⟩
  · obtain ⟨b, o, rfl, hrow⟩ := hs.row (by omega)
    have hb := hs.lt (by omega) (by omega)
    obtain ⟨n, hN⟩ : ∃ n, n = qs.length := ⟨_, rfl⟩
    rw [← hN] at hwide hz ⊢
    have HN := Lib.hid hN
    clear hN
    go_enter Try.func7, Try.ntmps7
    go_wp2_with fail
    obtain ⟨X, hX⟩ : ∃ X, X = w.alloc (.cells #[.int .i64 room, .slice (some ⟨b, o, none⟩) n cap] 47) := ⟨_, rfl⟩
    rw [← hX]
    have bX : Below w.heap.size w X := by subst hX; exact (Below.refl _ _).alloc (Nat.le_refl _) _
    have kX : X.heap[w.heap.size]? = some (.cells #[.int .i64 room, .slice (some ⟨b, o, none⟩) n cap] 47 (0, 0)) := by subst hX; exact blk_last w _ rfl
    have zX : X.heap.size = w.heap.size + 1 := by subst hX; simp
    clear hX
    have c0 : ∀ w', Below X.heap.size X w' → w'.cell? ⟨w.heap.size, 0, none⟩ = some (.int .i64 room) := fun w' h => by rw [h.cell (by simp; omega)]; exact Joins.cell_of_block kX 0
    have c1 : ∀ w', Below X.heap.size X w' → w'.cell? ⟨w.heap.size, 1, none⟩ = some (.slice (some ⟨b, o, none⟩) n cap) := fun w' h => by rw [h.cell (by simp; omega)]; exact Joins.cell_of_block kX 1
    have hnews : ∀ w', Below X.heap.size X w' → ∀ j u, (qs.flatMap encInt)[j]? = some u → w'.cell? ((⟨b, o, none⟩ : Addr).add j) = some u := fun w' h j u hu => by
      rw [Addr.add_lit, h.cell (by simp; omega), bX.cell (by simpa using hb)]; exact hrow j u hu
    have h1c : ∀ u ∈ qs.flatMap encInt, u.oneCell' = true := by
      intro u hu
      obtain ⟨q, _, h⟩ := List.mem_flatMap.1 hu
      simp only [encInt, List.mem_cons, List.not_mem_nil, or_false] at h
      subst h; rfl
    have hfl : (qs.flatMap encInt).length = n * 1 := by rw [HN.out]; exact hs.len
    have ZX := Lib.hid zX
    have HNE := Lib.hid hnews
    have H1C := Lib.hid h1c
    have HFL := Lib.hid hfl
    clear hrow hnews h1c hfl zX
    go_region_held3 (fun w' => Below X.heap.size X w') (first | exact (Below.refl _ _).drew | exact Below.alloc (by assumption) (Below.size (by assumption)) _ | exact below_other (by assumption) (by have h1 := (World.ownsRow.lt hown1 g rfl); omega) | exact Below.setCell (by assumption) (by first | exact Nat.le_refl _ | (have := Below.size (by assumption : Below X.heap.size X _); simp; omega)) _ | exact Below.setCell (Below.setCell (by assumption) (by exact Nat.le_refl _) _) (by exact Nat.le_refl _) _ | exact Below.grown (by assumption) (by assumption) (Below.size (by assumption)) (by simp [Value.ownBlock])) ((refine step_append_lies _ (by rfl) _ _ _ (by rfl) X.heap.size 3 i0 _ 1 8 Try.underlying45 hi hz0 hz1 hz2 rfl (by omega) (.slice none 0 0) 0 [] (by rfl) (World.ownsRow_nil _ _ _ _) ⟨b, o, none⟩ n cap (qs.flatMap encInt) (by rfl) HFL.out (HNE.out _ (by assumption)) H1C.out (by omega) (by unfold maxLen; omega) (by omega) (Below.size (by assumption)) _ rfl ?_; intro g cap1 w1 hown1 hgrow1 hat1 hlt1; try (have bb := blk_grown hgrow1 (blk_last X _ rfl) (by simp [Value.ownBlock]); have m0 := Joins.cell_of_block bb 0; have m1 := Joins.cell_of_block bb 1; have n0 := Joins.unfrozen_of_block bb 0; have n1 := Joins.unfrozen_of_block bb 1)))
    · have hn := HN.out
      subst hn
      rw [Nat.zero_add, List.nil_append] at hown1
      obtain ⟨W2, hW2⟩ : ∃ W2, W2 = w1.alloc (.cells #[.int .i64 room, .slice (some ⟨g, 0, none⟩) qs.length cap1] 47) := ⟨_, rfl⟩
      rw [← hW2]
      obtain ⟨t, ht⟩ : ∃ t, t = w1.heap.size := ⟨_, rfl⟩
      rw [← ht]
      have bX2 : Below X.heap.size X W2 := by subst hW2; assumption
      have kT : W2.heap[t]? = some (.cells #[.int .i64 room, .slice (some ⟨g, 0, none⟩) qs.length cap1] 47 (0, 0)) := by subst hW2; exact blk_last w1 _ ht
      have kS : W2.heap[w.heap.size]? = some (.cells #[.int .i64 room, .slice (some ⟨b, o, none⟩) qs.length cap] 47 (0, 0)) := by rw [bX2.block _ (by rw [ZX.out]; omega)]; exact kX
      have bW : Below w.heap.size w W2 := bX.trans (bX2.mono bX.size)
      have sS := hs.below (by omega) bW
      have sT : Sl W2 1 8 (some ⟨g, 0, none⟩) qs.length cap1 (qs.flatMap encInt) := by subst hW2; exact sl_own_is (hown1.alloc _) hwide
      clear hW2 ht c0 c1
      have x0 : ∀ x : Grow W2, x.val.cell? ⟨t, 0, none⟩ = some (.int .i64 room) := Grow.cells (Joins.cell_of_block kT 0)
      have x1 : ∀ x : Grow W2, x.val.cell? ⟨t, 1, none⟩ = some (.slice (some ⟨g, 0, none⟩) qs.length cap1) := Grow.cells (Joins.cell_of_block kT 1)
      have y0 : ∀ x : Grow W2, x.val.cell? ⟨w.heap.size, 0, none⟩ = some (.int .i64 room) := Grow.cells (Joins.cell_of_block kS 0)
      have y1 : ∀ x : Grow W2, x.val.cell? ⟨w.heap.size, 1, none⟩ = some (.slice (some ⟨b, o, none⟩) qs.length cap) := Grow.cells (Joins.cell_of_block kS 1)
      clear kT kS
      go_wp2_with fail
      refine wp_region_grow (by kernel_rfl) (by kernel_rfl) ?_
      repeat (go_big_quiet_step (first | (go_at_call 24; first | (with_reducible exact grow_of (check_empty _)) | (with_reducible exact grow_of (check_any _ _ _ _ _ (sT.grow (by omega) _)))) | (go_at_call 25; with_reducible exact grow_of (refCheck_any _ _ _ _ _ (sS.grow (by omega) _)))))
      refine wpQuiet_nil ?_
      intro _ hw'
      obtain ⟨x, hx⟩ := hw'
      subst hx
      go_wp2
      go_ret
      exact ⟨rfl, bW.trans (x.below.mono bW.size)⟩
    · have hn := HN.out
      subst hn
      rw [Nat.zero_add, List.nil_append] at hown1
      have hgne : ¬ g = X.heap.size := by rcases hat1 with h | h <;> simp [Value.ownBlock] at h; omega
      obtain ⟨W2, hW2⟩ : ∃ W2, W2 = (w1.setCell ⟨X.heap.size, 0, none⟩ (.int .i64 room)).setCell ⟨X.heap.size, 1, none⟩ (.slice (some ⟨g, 0, none⟩) qs.length cap1) := ⟨_, rfl⟩
      rw [← hW2]
      obtain ⟨t, ht⟩ : ∃ t, t = X.heap.size := ⟨_, rfl⟩
      rw [← ht]
      have bX2 : Below X.heap.size X W2 := by subst hW2; assumption
      have kT : W2.heap[t]? = some (.cells #[.int .i64 room, .slice (some ⟨g, 0, none⟩) qs.length cap1] 47 (0, 0)) := by subst hW2; subst ht; exact Joins.block_setCell (Joins.block_setCell bb _) _
      have kS : W2.heap[w.heap.size]? = some (.cells #[.int .i64 room, .slice (some ⟨b, o, none⟩) qs.length cap] 47 (0, 0)) := by rw [bX2.block _ (by rw [ZX.out]; omega)]; exact kX
      have bW : Below w.heap.size w W2 := bX.trans (bX2.mono bX.size)
      have sS := hs.below (by omega) bW
      have sT : Sl W2 1 8 (some ⟨g, 0, none⟩) qs.length cap1 (qs.flatMap encInt) := by subst hW2; exact sl_own_is (ownsRow_setCell_other (ownsRow_setCell_other hown1 (by simpa [Value.ownBlock] using hgne) _) (by simpa [Value.ownBlock] using hgne) _) hwide
      clear hW2 ht c0 c1
      have x0 : ∀ x : Grow W2, x.val.cell? ⟨t, 0, none⟩ = some (.int .i64 room) := Grow.cells (Joins.cell_of_block kT 0)
      have x1 : ∀ x : Grow W2, x.val.cell? ⟨t, 1, none⟩ = some (.slice (some ⟨g, 0, none⟩) qs.length cap1) := Grow.cells (Joins.cell_of_block kT 1)
      have y0 : ∀ x : Grow W2, x.val.cell? ⟨w.heap.size, 0, none⟩ = some (.int .i64 room) := Grow.cells (Joins.cell_of_block kS 0)
      have y1 : ∀ x : Grow W2, x.val.cell? ⟨w.heap.size, 1, none⟩ = some (.slice (some ⟨b, o, none⟩) qs.length cap) := Grow.cells (Joins.cell_of_block kS 1)
      clear kT kS
      go_wp2_with fail
      refine wp_region_grow (by kernel_rfl) (by kernel_rfl) ?_
      repeat (go_big_quiet_step (first | (go_at_call 24; first | (with_reducible exact grow_of (check_empty _)) | (with_reducible exact grow_of (check_any _ _ _ _ _ (sT.grow (by omega) _)))) | (go_at_call 25; with_reducible exact grow_of (refCheck_any _ _ _ _ _ (sS.grow (by omega) _)))))
      refine wpQuiet_nil ?_
      intro _ hw'
      obtain ⟨x, hx⟩ := hw'
      subst hx
      go_wp2
      go_ret
      exact ⟨rfl, bW.trans (x.below.mono bW.size)⟩
section
open Go.ChangeShapes Go.WideShapes Go.ChangeAt
set_option maxRecDepth 100000 in
theorem lifted_houseChecks (os : Os) (started : os.Started) (H : Type) (enc : TypeId × Value → H)
    (walk : ∀ (W : World) (v0 : Value), Is_config W v0 → Calls Try.prog 7 #[v0] W fun e w' => e = .returned (.bool true) ∧ Below W.heap.size W w') :
    ReturnsInHanded {} Try.checked os 7 .any (Rows.houseChecksSpec.pre6 enc Try.prog Try.f7 Rows.houseChecksRow.domain false) (Rows.houseChecksSpec.post enc Try.prog Try.f7 false true false false) := by
  refine returnsInHanded_of_change_sized (C := Try.checked) own started (by kernel_rfl) Try.func7
    (ChangeSpec.witness6 (enc := enc) (C := Try.checked) false ⟨#[], #[.agg #[.int .i64 0, .slice none 0 0]], []⟩ 8 (by kernel_rfl) (by kernel_rfl) (by kernel_rfl) (by kernel_rfl)) ?_
  intro W base args ds gs before hval0 hW hcnd hsz0 _
  have hval : ∀ (j : Nat) t v, Try.f7.params[j]? = some t → args[j]? = some v → Value.okWide Try.prog W .any base t v := hval0
  have hW' := hW
  obtain ⟨p, q, hA0, hV, rfl, hfz, hnd⟩ := hW
  have hA : DataW.TrodAll enc Try.prog W 0 (fun _ => true) true Try.f7.params.toList args.toList ds p := hA0
  rw [Try.params7] at hA hval
  obtain ⟨rfl, rfl⟩ := trodVars_none hV
  have hB := hA
  obtain ⟨v0, vs0, d0, ds0, p0, q0, hargs, rfl, rfl, h0, r0⟩ := trodAll_cons hA
  obtain ⟨rfl, rfl, rfl⟩ := trodAll_nil r0
  obtain rfl : args = #[v0] := by cases args; simp_all
  have hsz : (DataW.weightsEach Try.prog [47] [d0]).all (· ≤ reachBytes) = true := hsz0
  have i0 := open_config (hval 0 47 v0 rfl rfl) h0 (weights_le hsz 0 rfl rfl)
  refine (walk W v0 i0).mono fun e W' ⟨he, bel⟩ => ?_
  subst he
  exact ⟨_, rfl, _, _, _, [], _, [], hW', trodAll_mk1 (shut_bool Try.underlying4 _), trodAll_below laidOut (by kernel_rfl) hB bel, rfl, bel.frame _, fun h => by cases h⟩

theorem over_houseChecks (walk : ∀ (W : World) (v0 : Value), Is_config W v0 → Calls Try.prog 7 #[v0] W fun e w' => e = .returned (.bool true) ∧ Below W.heap.size W w') :
    Rows.houseChecksRow.holds Try.pinned (OpenSpec.ofChange Rows.houseChecksSpec) :=
  OpenClaim.holds_of_wide 7 Try.f7 rfl rfl rfl rfl rfl rfl rfl ⟨rfl, rfl, rfl, rfl, rfl⟩ rfl rfl rfl rfl rfl (by kernel_rfl) Try.func7 (by kernel_rfl)
    (of_decide_eq_true (by kernel_rfl)) (by unfold Func.isWrapper; first | (rw [if_pos (by decide +kernel)]; kernel_rfl) | (rw [if_neg (by decide +kernel)]; exact ⟨rfl, rfl⟩))
    (fun os started H enc _ => lifted_houseChecks os started H enc walk)
end
theorem houseChecks_proved : Rows.HouseChecksSaid := over_houseChecks fun W _ ⟨room, qv, qs, e0, _, ⟨a, cap, e1, hs⟩, _⟩ => by
  subst e0; subst e1
  exact law_checks room qs a cap W hs
end Go.Proofs.Ytghginiipknoeaa
