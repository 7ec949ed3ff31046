/-
  The document's put, Tidy, SameCells.
-/
import Derived.Test.YtabhpbkkjijfjaaZLeapStepsTidies
namespace Go.Proofs.Ytabhpbkkjijfjaa
set_option maxRecDepth 100000
open Go.RowKit

set_option maxHeartbeats 1000000 in
theorem ahead_any (x y : Int × Int) (w : World) : Calls Try.prog 55 #[.agg #[.int .i64 x.1, .int .i64 x.2], .agg #[.int .i64 y.1, .int .i64 y.2]] w fun e w' => e = .returned (.bool (cellLt x y)) ∧ Below w.heap.size w w' := by
  obtain ⟨x1, x2⟩ := x
  obtain ⟨y1, y2⟩ := y
  have B2 : Below w.heap.size w ((w.alloc (.cells #[.int .i64 x1, .int .i64 x2] 39)).alloc (.cells #[.int .i64 y1, .int .i64 y2] 39)) := ((Below.refl _ _).alloc (Nat.le_refl _) _).alloc (by simp) _
  rcases (show x2 < y2 ∨ y2 < x2 ∨ (x2 = y2 ∧ x1 < y1) ∨ (x2 = y2 ∧ y1 ≤ x1) by omega) with h | h | ⟨rfl, h⟩ | ⟨rfl, h⟩
  · have hc : cellLt (x1, x2) (y1, y2) = true := by rw [cellLt_iff]; exact .inl h
    rw [hc]
    go_enter Try.func55, Try.ntmps55
    go_wp2_with fail
    go_ret
    exact ⟨by simp, B2⟩
  · have hc : cellLt (x1, x2) (y1, y2) = false := by rw [Bool.eq_false_iff, Ne, cellLt_iff]; simp; omega
    have h' : ¬ x2 = y2 := by omega
    rw [hc]
    go_enter Try.func55, Try.ntmps55
    go_wp2_with fail
    go_ret
    exact ⟨by simp; omega, B2⟩
  · have hc : cellLt (x1, x2) (y1, x2) = true := by rw [cellLt_iff]; exact .inr ⟨rfl, h⟩
    rw [hc]
    go_enter Try.func55, Try.ntmps55
    go_wp2_with fail
    go_ret
    exact ⟨by simp, B2⟩
  · have hc : cellLt (x1, x2) (y1, x2) = false := by rw [Bool.eq_false_iff, Ne, cellLt_iff]; simp; omega
    rw [hc]
    go_enter Try.func55, Try.ntmps55
    go_wp2_with fail
    go_ret
    exact ⟨by simp [h], B2⟩
set_option maxHeartbeats 1000000 in
theorem same_any (xs : List (Int × Int)) (a a' : Option Addr) (cap cap' : Nat) (w : World) (h1 : Sl w 2 16 a xs.length cap (xs.flatMap encCell)) (h2 : Sl w 2 16 a' xs.length cap' (xs.flatMap encCell)) :
    Calls Try.prog 10 #[.slice a xs.length cap, .slice a' xs.length cap'] w fun e w' => e = .returned (.bool true) ∧ Below w.heap.size w w' := by
  have hn := h1.wide
  obtain ⟨n, hN⟩ : ∃ n, n = xs.length := ⟨_, rfl⟩
  rw [← hN] at h1 h2 hn ⊢
  have HN := Lib.hid hN
  clear hN
  go_enter Try.func10, Try.ntmps10
  go_wp2_with fail
  go_loopw [13] (fun i wr => ∃ k : Nat, i = .int .i64 k ∧ k ≤ n ∧ Below w.heap.size w wr) (fun i _ => n - (intOf i).toNat)
  case atStart => exact ⟨0, rfl, Nat.zero_le _, Below.refl _ _⟩
  case round =>
    obtain ⟨k, rfl, hk, hB⟩ := hrel
    by_cases hlt : k < n
    · obtain ⟨c, hc⟩ : ∃ c, xs[k]? = some c := ⟨xs[k]'(by have := HN.out; omega), by simp⟩
      obtain ⟨b, o, rfl, hrow⟩ := h1.row (by omega)
      obtain ⟨b', o', rfl, hrow'⟩ := h2.row (by omega)
      have hb := h1.lt (by omega) (by omega)
      have hb' := h2.lt (by omega) (by omega)
      have e0 := (hB.cell (p := ⟨b, o + k * 2, none⟩) hb).trans (hrow _ _ (flat_nth hc).1)
      have e1 : wr.cell? ⟨b, o + k * 2 + 1, none⟩ = some (.int .i64 c.2) := (hB.cell (p := ⟨b, o + k * 2 + 1, none⟩) hb).trans (by have := hrow _ _ (flat_nth hc).2; rw [← Nat.add_assoc] at this; exact this)
      have f0 := (hB.cell (p := ⟨b', o' + k * 2, none⟩) hb').trans (hrow' _ _ (flat_nth hc).1)
      have f1 : wr.cell? ⟨b', o' + k * 2 + 1, none⟩ = some (.int .i64 c.2) := (hB.cell (p := ⟨b', o' + k * 2 + 1, none⟩) hb').trans (by have := hrow' _ _ (flat_nth hc).2; rw [← Nat.add_assoc] at this; exact this)
      clear hc hrow hrow'
      obtain ⟨x, y⟩ := c
      dsimp only at e0 e1 f0 f1
      go_wp2_with fail
      go_quiet (fail)
      go_wp2_with fail
      exact ⟨⟨k + 1, by go_num, by omega, hB.trans (Joins.below_draws _ _ _)⟩, by simp [intOf]; omega⟩
    · obtain rfl : k = n := by omega
      go_wp2_with fail
      go_ret
      exact ⟨rfl, hB⟩
theorem flat_drop (xs : List (Int × Int)) {k : Nat} (hk : k ≤ xs.length) : (xs.drop k).flatMap encCell = (xs.flatMap encCell).drop (k * 2) := by
  have e : xs.flatMap encCell = (xs.take k).flatMap encCell ++ (xs.drop k).flatMap encCell := by rw [← List.flatMap_append, List.take_append_drop]
  have hl : ((xs.take k).flatMap encCell).length = k * 2 := by rw [flat_len, List.length_take]; congr 1; omega
  rw [e, ← hl, List.drop_left]
theorem copy_shift {w1 : World} {g l n cap1 : Nat} {xs : List (Int × Int)} {c : Int × Int} {sp : List Value} (h : Held w1 g (xs ++ [c]) sp) (hN : n = xs.length) (hl : l < n) :
    ∃ w2, (Builtin.copy_ #[24, 24] 3 #[.slice (some ⟨g, (l + 1) * 2, none⟩) (n - l) (cap1 - (l + 1)), .slice (some ⟨g, l * 2, none⟩) (n + 1 - l) (cap1 - l)]).run Try.prog w1 = .ok (goInt (n - l : Nat)) w2 ∧
      Held w2 g (xs.take (l + 1) ++ xs.drop l) sp ∧ Keeps (fun i => i = g) w1 w2 := by
  have hm : Nat.min (n + 1 - l) (n - l) = n - l := by show min _ _ = _; omega
  have hcp := run_copy_rowK (P := Try.prog) w1 24 24 3 39 2 g ((l + 1) * 2) (n - l) (cap1 - (l + 1)) ⟨g, l * 2, none⟩ (n + 1 - l) (cap1 - l) _ 39 ((xs.drop l).flatMap encCell) Try.underlying24 (by kernel_rfl) h
    (by rw [flat_len, List.length_drop, hm, hN]) (fun j v hj => by
      have hj' : j < (xs.drop l).length * 2 := by have := (List.getElem?_eq_some_iff.1 hj).1; rw [flat_len] at this; exact this
      rw [List.length_drop] at hj'
      rw [Addr.add_lit, Joins.cell_of_block h, List.getElem?_toArray, List.getElem?_append_left (by rw [flat_len]; simp; omega), List.flatMap_append, List.getElem?_append_left (by rw [flat_len]; omega)]
      rw [flat_drop xs (by omega), List.getElem?_drop] at hj
      exact hj) (by rw [List.size_toArray, List.length_append, flat_len, flat_len, List.length_drop, List.length_append, List.length_singleton]; omega) (encCell_one _)
  rw [hm] at hcp
  exact ⟨_, hcp, h.shifted (by omega), (Keeps.refl (fun i => i = g) w1).setRow (fun _ => rfl) _⟩
theorem copy_zero (w1 : World) (m : Nat) (hm : m = 0) (a : Option Addr) (c' : Nat) (b : Option Addr) (n c : Nat) : (Builtin.copy_ #[24, 24] 3 #[.slice a m c', .slice b n c]).run Try.prog w1 = .ok (goInt 0) w1 := by
  subst hm
  obtain ⟨i0, hi, hz0, hz1, hz2⟩ := info_parts infoCell
  have hl : ∀ x : Addr, (loadCells x 0).run Try.prog w1 = .ok #[] w1 := fun x => by simpa using run_loadCells_list (P := Try.prog) w1 x [] (by simp)
  cases a <;> cases b <;> simp [Builtin.copy_, run_underlying Try.underlying24, Builtin.lenOf, Builtin.firstCells, sizeOf, typeInfo, hi, storeCells, hl]
theorem set_shift {xs : List (Int × Int)} {l : Nat} (h : l < xs.length) (c : Int × Int) : (xs.take (l + 1) ++ xs.drop l).set l c = xs.take l ++ c :: xs.drop l := by
  have e : xs.take (l + 1) = xs.take l ++ [xs[l]] := by rw [List.take_add_one, List.getElem?_eq_getElem h]; rfl
  have hl : (xs.take l).length = l := by rw [List.length_take]; omega
  rw [e, List.append_assoc, List.set_append_right _ _ (by omega), hl, Nat.sub_self]
  rfl
set_option maxHeartbeats 2000000 in
theorem put_any (xs : List (Int × Int)) (c : Int × Int) (base : Nat) (a : Option Addr) (cap : Nat) (w : World) (hown : w.ownsRow base 39 2 (.slice a xs.length cap) xs.length (xs.flatMap encCell)) (hbase : base ≤ w.heap.size) (hr : Rising xs) (hsz : xs.length ≤ 1000000) :
    Calls Try.prog 35 #[.slice a xs.length cap, .agg #[.int .i64 c.1, .int .i64 c.2]] w fun e w' => ∃ v', e = .returned v' ∧ w'.ownsRow base 39 2 v' (putF c xs).length ((putF c xs).flatMap encCell) ∧ Keeps (fun i => (Value.slice a xs.length cap).ownBlock = some i) w w' := by
  have hsl : Sl w 2 16 a xs.length cap (xs.flatMap encCell) := by
    obtain ⟨a', c', e1, hs⟩ := sl_of_own hown (bytes := 16) (by omega)
    simp only [Value.slice.injEq, true_and] at e1
    obtain ⟨rfl, rfl⟩ := e1
    exact hs
  obtain ⟨n, hN⟩ : ∃ n, n = xs.length := ⟨_, rfl⟩
  have HO := Lib.hid hown
  have HR := Lib.hid hr
  have HN := Lib.hid hN
  rw [← hN] at hsl hsz hown ⊢
  clear hN hown hr
  obtain ⟨c1, c2⟩ := c
  dsimp only
  go_enter Try.func35, Try.ntmps35
  go_wp2_with fail
  go_loopw [5, 6] (fun lo hi wr => ∃ (l h : Nat), lo = .int .i64 l ∧ hi = .int .i64 h ∧ Aside (Halved xs (c1, c2) l h) ∧ l ≤ h ∧ h ≤ n ∧ Below w.heap.size w wr ∧ wr.heap[w.heap.size]? = some (.cells #[.int .i64 c1, .int .i64 c2] 39 (0, 0))) (fun lo hi _ => (intOf hi).toNat - (intOf lo).toNat)
  case atStart => exact ⟨0, n, rfl, rfl, by have := Halved.start xs (c1, c2); rw [← HN.out] at this; exact this, Nat.zero_le _, Nat.le_refl _, (Below.refl _ _).alloc (Nat.le_refl _) _, blk_last w _ rfl⟩
  case round =>
    obtain ⟨l, h, rfl, rfl, HH, hlh, hhn, hB, hbox⟩ := hrel
    have hz := hB.size
    by_cases hlt : l < h
    · obtain ⟨m, hm⟩ : ∃ m, m = (l + h) / 2 := ⟨_, rfl⟩
      have hmi : ((l : Int) + (h : Int)) / 2 = (m : Int) := by omega
      have hmn : m < n := by omega
      obtain ⟨q, hq⟩ : ∃ q, xs[m]? = some q := ⟨xs[m]'(by have := HN.out; omega), by simp⟩
      obtain ⟨b, o, rfl, hrow⟩ := hsl.row (by omega)
      have hb := hsl.lt (by omega) (by omega)
      have e0 := (hB.cell (p := ⟨b, o + m * 2, none⟩) hb).trans (hrow _ _ (flat_nth hq).1)
      have e1 : wr.cell? ⟨b, o + m * 2 + 1, none⟩ = some (.int .i64 q.2) := (hB.cell (p := ⟨b, o + m * 2 + 1, none⟩) hb).trans (by have := hrow _ _ (flat_nth hq).2; rw [← Nat.add_assoc] at this; exact this)
      have e0 := Grow.cells e0
      have e1 := Grow.cells e1
      have b0 : wr.cell? ⟨w.heap.size, 0, none⟩ = some (.int .i64 c1) := Joins.cell_of_block hbox 0
      have b1 : wr.cell? ⟨w.heap.size, 1, none⟩ = some (.int .i64 c2) := Joins.cell_of_block hbox 1
      have b0 := Grow.cells b0
      have b1 := Grow.cells b1
      have HQ := Lib.hid hq
      have hzl := lt_of_block hbox
      clear hq hrow
      obtain ⟨q1, q2⟩ := q
      dsimp only at e0 e1
      obtain ⟨t, ht⟩ : ∃ t, t = cellLt (q1, q2) (c1, c2) := ⟨_, rfl⟩
      have hah := fun W => ahead_any (q1, q2) (c1, c2) W
      rw [← ht] at hah
      have HA := Lib.hid hah
      have HT := Lib.hid ht
      have HM := Lib.hid hm
      clear hah ht hm
      cases t
      · go_wp2_with fail
        refine wp_region_grow (by kernel_rfl) (by kernel_rfl) ?_
        repeat (go_big_quiet_step ((go_at_call 55; with_reducible exact grow_of (HA.out _))))
        refine wpQuiet_nil ?_
        intro _ hw'
        obtain ⟨x, hx⟩ := hw'
        subst hx
        go_wp2_with fail
        refine ⟨⟨l, m, rfl, rfl, ?_, by have := HM.out; omega, by omega, hB.trans (x.below.mono hz), (x.below.block _ hzl).trans hbox⟩, ?_⟩
        · have h := HH.out.down HR.out hlt (m := (q1, q2)) (by rw [← HM.out]; exact HQ.out) HT.out.symm
          rw [← HM.out] at h
          exact h
        · have := HM.out; simp [intOf]; omega
      · go_wp2_with fail
        refine wp_region_grow (by kernel_rfl) (by kernel_rfl) ?_
        repeat (go_big_quiet_step ((go_at_call 55; with_reducible exact grow_of (HA.out _))))
        refine wpQuiet_nil ?_
        intro _ hw'
        obtain ⟨x, hx⟩ := hw'
        subst hx
        go_wp2_with fail
        refine ⟨⟨m + 1, h, by go_num, rfl, ?_, by have := HM.out; omega, by omega, hB.trans (x.below.mono hz), (x.below.block _ hzl).trans hbox⟩, ?_⟩
        · have h := HH.out.up HR.out hlt (m := (q1, q2)) (by rw [← HM.out]; exact HQ.out) HT.out.symm
          rw [← HM.out] at h
          exact h
        · have := HM.out; simp [intOf]; omega
    · obtain rfl : l = h := by omega
      obtain ⟨i0, hi, hz0, hz1, hz2⟩ := info_parts infoCell
      have hfd := HH.out.found
      have HF := Lib.hid hfd
      have b0 : wr.cell? ⟨w.heap.size, 0, none⟩ = some (.int .i64 c1) := Joins.cell_of_block hbox 0
      have b1 : wr.cell? ⟨w.heap.size, 1, none⟩ = some (.int .i64 c2) := Joins.cell_of_block hbox 1
      have hzl := lt_of_block hbox
      have how := own_below HO.out hB
      rw [← HN.out] at how
      have HOW := Lib.hid how
      clear how hfd
      by_cases hln : l < n
      · obtain ⟨q, hq⟩ : ∃ q, xs[l]? = some q := ⟨xs[l]'(by have := HN.out; omega), by simp⟩
        obtain ⟨b, o, rfl, hrow⟩ := hsl.row (by omega)
        have hb := hsl.lt (by omega) (by omega)
        have e0 := (hB.cell (p := ⟨b, o + l * 2, none⟩) hb).trans (hrow _ _ (flat_nth hq).1)
        have e1 : wr.cell? ⟨b, o + l * 2 + 1, none⟩ = some (.int .i64 q.2) := (hB.cell (p := ⟨b, o + l * 2 + 1, none⟩) hb).trans (by have := hrow _ _ (flat_nth hq).2; rw [← Nat.add_assoc] at this; exact this)
        have HQ := Lib.hid hq
        clear hq hrow
        obtain ⟨q1, q2⟩ := q
        dsimp only at e0 e1
        rcases (show (q1 = c1 ∧ q2 = c2) ∨ (c1 = q1 ∧ ¬ q2 = c2) ∨ ¬ q1 = c1 by omega) with ⟨rfl, rfl⟩ | ⟨rfl, e2⟩ | e2
        · go_wp2_with fail
          go_quiet (fail)
          go_wp2_with fail
          go_ret
          refine ⟨_, rfl, ?_, (Keeps.of_below hB).below (Joins.below_draws _ _ _)⟩
          rw [HF.out, if_pos HQ.out, ← HN.out]
          exact HOW.out
        · go_wp2_with fail
          go_quiet (fail)
          go_wp2_with ((at_builtin; refine wpList_append_lies _ rfl _ _ 24 rfl base 39 i0 _ 2 16 Try.underlying24 hi hz0 hz1 hz2 rfl (by omega) (.slice (some ⟨b, o, none⟩) n cap) n (xs.flatMap encCell) rfl ((show (wr.drewN nq).ownsRow _ _ _ _ _ _ from HOW.out).alloc _) ⟨wr.heap.size, 0, none⟩ 1 1 [.int .i64 c1, .int .i64 c2] rfl rfl (news_alloc _ _ _ (by simp)) (by simp [Value.oneCell']) (by omega) (by unfold maxLen; omega) (by omega) (by simp; omega) (wr.heap.size + 1) (by simp) ?_; intro g cap1 w1 hown1 hgrow1 hat1 hlt1))
          have hgw : g < w.heap.size → (Value.slice (some ⟨b, o, none⟩) n cap).ownBlock = some g := fun hlt' => by
            rcases hat1 with h | h
            · exact h
            · omega
          have hgne : w.heap.size ≠ g := fun e => by
            rcases hat1 with h | h
            · have := ((HO.out.lt g (by rw [← HN.out]; exact h)).2); omega
            · omega
          have hbx1 : w1.heap[w.heap.size]? = some (.cells #[.int .i64 c1, .int .i64 c2] 39 (0, 0)) := blk_grown hgrow1 (blk_alloc (show (wr.drewN nq).heap[w.heap.size]? = _ from hbox) _) (fun e => by have := ((HO.out.lt _ (by rw [← HN.out]; exact e.symm)).2); omega)
          have ef : (xs ++ [(c1, c2)]).flatMap encCell = xs.flatMap encCell ++ [.int .i64 c1, .int .i64 c2] := by simp [encCell]
          have ho2 : w1.ownsRow base 39 2 (.slice (some ⟨g, 0, none⟩) (xs ++ [(c1, c2)]).length cap1) (xs ++ [(c1, c2)]).length ((xs ++ [(c1, c2)]).flatMap encCell) := by
            rw [List.length_append, List.length_singleton, ← HN.out, ef]; exact hown1
          obtain ⟨sp, hH1, hspl, hgb, hcm⟩ := held_of_own ho2
          have hK1 : Keeps (fun i => (Value.slice (some ⟨b, o, none⟩) n cap).ownBlock = some i) w w1 := (((Keeps.of_below hB).below (Joins.below_draws _ _ _)).alloc _).grown hgrow1 (fun g' hg' _ => hg')
          have hca : n + 1 ≤ cap1 := by
            rw [List.length_append, List.length_singleton] at hspl
            have := HN.out; omega
          obtain ⟨w2, hcp, hH2, hK2⟩ := copy_shift (w1 := w1.drew) (cap1 := cap1) hH1 HN.out hln
          obtain ⟨ys, hys⟩ : ∃ ys, ys = xs.take (l + 1) ++ xs.drop l := ⟨_, rfl⟩
          rw [← hys] at hH2
          have hyln : ys.length = n + 1 := by rw [hys, List.length_append, List.length_take, List.length_drop]; have := HN.out; omega
          have hyl : l < ys.length := by omega
          have hset : ys.set l (c1, c2) = xs.take l ++ (c1, c2) :: xs.drop l := by rw [hys]; exact set_shift (by have := HN.out; omega) _
          have HY := Lib.hid hset
          have HYL := Lib.hid hyln
          clear hys hset hyln
          have HK := Lib.hid hK1
          have HK2 := Lib.hid hK2
          have HG := Lib.hid hgw
          have x0 : w2.cell? ⟨w.heap.size, 0, none⟩ = some (.int .i64 c1) := (hK2.cell (p := ⟨w.heap.size, 0, none⟩) (lt_of_block hbx1) hgne).trans (Joins.cell_of_block hbx1 0)
          have x1 : w2.cell? ⟨w.heap.size, 1, none⟩ = some (.int .i64 c2) := (hK2.cell (p := ⟨w.heap.size, 1, none⟩) (lt_of_block hbx1) hgne).trans (Joins.cell_of_block hbx1 1)
          have f0 := hH2.free (l * 2)
          have f1 := hH2.free (l * 2 + 1)
          obtain ⟨z, hz⟩ : ∃ z, ys[l]? = some z := ⟨ys[l]'hyl, by simp⟩
          have y0 := hH2.x hz
          have y1 := hH2.y hz
          have HH2 := Lib.hid hH2
          have HSP := Lib.hid hspl
          clear hK1 hK2 hgw hH2 hz hspl hH1 ho2 ef hbx1 hown1 hgrow1 hat1
          have hw1 : IntKind.i64.wrap ((l : Int) + 1) = (l : Int) + 1 := wrap_small _ (by omega) (by omega)
          have hw2 : ((l : Int) + 1).toNat = l + 1 := by omega
          have hw3 : (0 : Int) ≤ (l : Int) + 1 := by omega
          have hw4 : (l : Int) + 1 ≤ (n : Int) + 1 := by omega
          have hw5 : ¬ cap1 = l + 1 := by omega
          have hw6 : ¬ cap1 = l := by omega
          have hw7 : (l : Int) ≤ (n : Int) + 1 := by omega
          go_region_law (fail)
          go_wp2_with fail
          go_ret
          refine ⟨_, rfl, ?_, ((HK.out.drew.trans HK2.out (fun i hi e => by subst e; exact HG.out hi)).setCell (fun h => HG.out h) _).setCell (fun h => HG.out h) _⟩
          have hfin := HH2.out.set (k := l) hyl (c1, c2)
          have hres : ys.set l (c1, c2) = putF (c1, c2) xs := by rw [HF.out, if_neg (by rw [HQ.out]; intro e; simp at e; exact e2 e), HY.out]
          rw [hres] at hfin
          have hln' : (putF (c1, c2) xs).length = n + 1 := by rw [← hres, List.length_set]; exact HYL.out
          have := own_of_held (cap := cap1) hfin (by rw [hln']; have := HSP.out; rw [List.length_append, List.length_singleton, ← HN.out] at this; exact this) hgb hcm
          rw [hln'] at this ⊢
          exact this
        · go_wp2_with fail
          go_quiet (fail)
          go_wp2_with ((at_builtin; refine wpList_append_lies _ rfl _ _ 24 rfl base 39 i0 _ 2 16 Try.underlying24 hi hz0 hz1 hz2 rfl (by omega) (.slice (some ⟨b, o, none⟩) n cap) n (xs.flatMap encCell) rfl ((show (wr.drewN nq).ownsRow _ _ _ _ _ _ from HOW.out).alloc _) ⟨wr.heap.size, 0, none⟩ 1 1 [.int .i64 c1, .int .i64 c2] rfl rfl (news_alloc _ _ _ (by simp)) (by simp [Value.oneCell']) (by omega) (by unfold maxLen; omega) (by omega) (by simp; omega) (wr.heap.size + 1) (by simp) ?_; intro g cap1 w1 hown1 hgrow1 hat1 hlt1))
          have hgw : g < w.heap.size → (Value.slice (some ⟨b, o, none⟩) n cap).ownBlock = some g := fun hlt' => by
            rcases hat1 with h | h
            · exact h
            · omega
          have hgne : w.heap.size ≠ g := fun e => by
            rcases hat1 with h | h
            · have := ((HO.out.lt g (by rw [← HN.out]; exact h)).2); omega
            · omega
          have hbx1 : w1.heap[w.heap.size]? = some (.cells #[.int .i64 c1, .int .i64 c2] 39 (0, 0)) := blk_grown hgrow1 (blk_alloc (show (wr.drewN nq).heap[w.heap.size]? = _ from hbox) _) (fun e => by have := ((HO.out.lt _ (by rw [← HN.out]; exact e.symm)).2); omega)
          have ef : (xs ++ [(c1, c2)]).flatMap encCell = xs.flatMap encCell ++ [.int .i64 c1, .int .i64 c2] := by simp [encCell]
          have ho2 : w1.ownsRow base 39 2 (.slice (some ⟨g, 0, none⟩) (xs ++ [(c1, c2)]).length cap1) (xs ++ [(c1, c2)]).length ((xs ++ [(c1, c2)]).flatMap encCell) := by
            rw [List.length_append, List.length_singleton, ← HN.out, ef]; exact hown1
          obtain ⟨sp, hH1, hspl, hgb, hcm⟩ := held_of_own ho2
          have hK1 : Keeps (fun i => (Value.slice (some ⟨b, o, none⟩) n cap).ownBlock = some i) w w1 := (((Keeps.of_below hB).below (Joins.below_draws _ _ _)).alloc _).grown hgrow1 (fun g' hg' _ => hg')
          have hca : n + 1 ≤ cap1 := by
            rw [List.length_append, List.length_singleton] at hspl
            have := HN.out; omega
          obtain ⟨w2, hcp, hH2, hK2⟩ := copy_shift (w1 := w1.drew) (cap1 := cap1) hH1 HN.out hln
          obtain ⟨ys, hys⟩ : ∃ ys, ys = xs.take (l + 1) ++ xs.drop l := ⟨_, rfl⟩
          rw [← hys] at hH2
          have hyln : ys.length = n + 1 := by rw [hys, List.length_append, List.length_take, List.length_drop]; have := HN.out; omega
          have hyl : l < ys.length := by omega
          have hset : ys.set l (c1, c2) = xs.take l ++ (c1, c2) :: xs.drop l := by rw [hys]; exact set_shift (by have := HN.out; omega) _
          have HY := Lib.hid hset
          have HYL := Lib.hid hyln
          clear hys hset hyln
          have HK := Lib.hid hK1
          have HK2 := Lib.hid hK2
          have HG := Lib.hid hgw
          have x0 : w2.cell? ⟨w.heap.size, 0, none⟩ = some (.int .i64 c1) := (hK2.cell (p := ⟨w.heap.size, 0, none⟩) (lt_of_block hbx1) hgne).trans (Joins.cell_of_block hbx1 0)
          have x1 : w2.cell? ⟨w.heap.size, 1, none⟩ = some (.int .i64 c2) := (hK2.cell (p := ⟨w.heap.size, 1, none⟩) (lt_of_block hbx1) hgne).trans (Joins.cell_of_block hbx1 1)
          have f0 := hH2.free (l * 2)
          have f1 := hH2.free (l * 2 + 1)
          obtain ⟨z, hz⟩ : ∃ z, ys[l]? = some z := ⟨ys[l]'hyl, by simp⟩
          have y0 := hH2.x hz
          have y1 := hH2.y hz
          have HH2 := Lib.hid hH2
          have HSP := Lib.hid hspl
          clear hK1 hK2 hgw hH2 hz hspl hH1 ho2 ef hbx1 hown1 hgrow1 hat1
          have hw1 : IntKind.i64.wrap ((l : Int) + 1) = (l : Int) + 1 := wrap_small _ (by omega) (by omega)
          have hw2 : ((l : Int) + 1).toNat = l + 1 := by omega
          have hw3 : (0 : Int) ≤ (l : Int) + 1 := by omega
          have hw4 : (l : Int) + 1 ≤ (n : Int) + 1 := by omega
          have hw5 : ¬ cap1 = l + 1 := by omega
          have hw6 : ¬ cap1 = l := by omega
          have hw7 : (l : Int) ≤ (n : Int) + 1 := by omega
          go_region_law (fail)
          go_wp2_with fail
          go_ret
          refine ⟨_, rfl, ?_, ((HK.out.drew.trans HK2.out (fun i hi e => by subst e; exact HG.out hi)).setCell (fun h => HG.out h) _).setCell (fun h => HG.out h) _⟩
          have hfin := HH2.out.set (k := l) hyl (c1, c2)
          have hres : ys.set l (c1, c2) = putF (c1, c2) xs := by rw [HF.out, if_neg (by rw [HQ.out]; intro e; simp at e; exact e2 e.1), HY.out]
          rw [hres] at hfin
          have hln' : (putF (c1, c2) xs).length = n + 1 := by rw [← hres, List.length_set]; exact HYL.out
          have := own_of_held (cap := cap1) hfin (by rw [hln']; have := HSP.out; rw [List.length_append, List.length_singleton, ← HN.out] at this; exact this) hgb hcm
          rw [hln'] at this ⊢
          exact this
      · obtain rfl : n = l := by omega
        have hnl : n - n = 0 := by omega
        have hno : xs[n]? = none := List.getElem?_eq_none (by have := HN.out; omega)
        have HNO := Lib.hid hno
        clear hno
        go_wp2_with fail
        go_quiet (fail)
        go_wp2_with ((at_builtin; refine wpList_append_lies _ rfl _ _ 24 rfl base 39 i0 _ 2 16 Try.underlying24 hi hz0 hz1 hz2 rfl (by omega) (.slice (a) n cap) n (xs.flatMap encCell) rfl ((show (wr.drewN nq).ownsRow _ _ _ _ _ _ from HOW.out).alloc _) ⟨wr.heap.size, 0, none⟩ 1 1 [.int .i64 c1, .int .i64 c2] rfl rfl (news_alloc _ _ _ (by simp)) (by simp [Value.oneCell']) (by omega) (by unfold maxLen; omega) (by omega) (by simp; omega) (wr.heap.size + 1) (by simp) ?_; intro g cap1 w1 hown1 hgrow1 hat1 hlt1))
        have hgw : g < w.heap.size → (Value.slice (a) n cap).ownBlock = some g := fun hlt' => by
          rcases hat1 with h | h
          · exact h
          · omega
        have hgne : w.heap.size ≠ g := fun e => by
          rcases hat1 with h | h
          · have := ((HO.out.lt g (by rw [← HN.out]; exact h)).2); omega
          · omega
        have hbx1 : w1.heap[w.heap.size]? = some (.cells #[.int .i64 c1, .int .i64 c2] 39 (0, 0)) := blk_grown hgrow1 (blk_alloc (show (wr.drewN nq).heap[w.heap.size]? = _ from hbox) _) (fun e => by have := ((HO.out.lt _ (by rw [← HN.out]; exact e.symm)).2); omega)
        have ef : (xs ++ [(c1, c2)]).flatMap encCell = xs.flatMap encCell ++ [.int .i64 c1, .int .i64 c2] := by simp [encCell]
        have ho2 : w1.ownsRow base 39 2 (.slice (some ⟨g, 0, none⟩) (xs ++ [(c1, c2)]).length cap1) (xs ++ [(c1, c2)]).length ((xs ++ [(c1, c2)]).flatMap encCell) := by
          rw [List.length_append, List.length_singleton, ← HN.out, ef]; exact hown1
        obtain ⟨sp, hH1, hspl, hgb, hcm⟩ := held_of_own ho2
        have hK1 : Keeps (fun i => (Value.slice (a) n cap).ownBlock = some i) w w1 := (((Keeps.of_below hB).below (Joins.below_draws _ _ _)).alloc _).grown hgrow1 (fun g' hg' _ => hg')
        have hca : n + 1 ≤ cap1 := by
          rw [List.length_append, List.length_singleton] at hspl
          have := HN.out; omega
        rcases Nat.lt_or_ge (n + 1) cap1 with hcc | hcc
        · have hcne : ¬ cap1 = n + 1 := by omega
          obtain ⟨w2, hw2⟩ : ∃ w2, w2 = w1.drew := ⟨_, rfl⟩
          have hH2 : Held w2 g (xs ++ [(c1, c2)]) sp := by rw [hw2]; exact hH1
          have hK2 : Keeps (fun i => i = g) w1.drew w2 := by rw [hw2]; exact Keeps.refl _ _
          have hcp : ∀ a' c' m c'', (Builtin.copy_ #[24, 24] 3 #[.slice a' 0 c', .slice (some ⟨g, n * 2, none⟩) m c'']).run Try.prog w1.drew = .ok (goInt 0) w2 := fun a' c' m c'' => by rw [hw2]; exact copy_zero w1.drew 0 rfl a' _ _ m _
          obtain ⟨ys, hys⟩ : ∃ ys, ys = xs ++ [(c1, c2)] := ⟨_, rfl⟩
          rw [← hys] at hH2
          have hyln : ys.length = n + 1 := by rw [hys, List.length_append, List.length_singleton, HN.out]
          have hyl : n < ys.length := by omega
          have hset : ys.set n (c1, c2) = xs.take n ++ (c1, c2) :: xs.drop n := by
            have hl := HN.out
            rw [hys, List.set_append_right _ _ (by omega), List.take_of_length_le (by omega), List.drop_eq_nil_of_le (by omega), show n - xs.length = 0 by omega]
            rfl
          have HY := Lib.hid hset
          have HYL := Lib.hid hyln
          have HW2 := Lib.hid hw2
          clear hys hset hyln hw2
          have HK := Lib.hid hK1
          have HK2 := Lib.hid hK2
          have HG := Lib.hid hgw
          have x0 : w2.cell? ⟨w.heap.size, 0, none⟩ = some (.int .i64 c1) := (hK2.cell (p := ⟨w.heap.size, 0, none⟩) (lt_of_block hbx1) hgne).trans (Joins.cell_of_block hbx1 0)
          have x1 : w2.cell? ⟨w.heap.size, 1, none⟩ = some (.int .i64 c2) := (hK2.cell (p := ⟨w.heap.size, 1, none⟩) (lt_of_block hbx1) hgne).trans (Joins.cell_of_block hbx1 1)
          have f0 := hH2.free (n * 2)
          have f1 := hH2.free (n * 2 + 1)
          obtain ⟨z, hz⟩ : ∃ z, ys[n]? = some z := ⟨ys[n]'hyl, by simp⟩
          have y0 := hH2.x hz
          have y1 := hH2.y hz
          have HH2 := Lib.hid hH2
          have HSP := Lib.hid hspl
          clear hK1 hK2 hgw hH2 hz hspl hH1 ho2 ef hbx1 hown1 hgrow1 hat1
          have hw1 : IntKind.i64.wrap ((n : Int) + 1) = (n : Int) + 1 := wrap_small _ (by omega) (by omega)
          have hw2 : ((n : Int) + 1).toNat = n + 1 := by omega
          have hw3 : (0 : Int) ≤ (n : Int) + 1 := by omega
          have hw4 : (n : Int) + 1 ≤ (n : Int) + 1 := by omega
          have hw6 : ¬ cap1 = n := by omega
          have hw7 : (n : Int) ≤ (n : Int) + 1 := by omega
          go_region_law (fail)
          go_wp2_with fail
          go_ret
          refine ⟨_, rfl, ?_, ((HK.out.drew.trans HK2.out (fun i hi e => by subst e; exact HG.out hi)).setCell (fun h => HG.out h) _).setCell (fun h => HG.out h) _⟩
          have hfin := HH2.out.set (k := n) hyl (c1, c2)
          have hres : ys.set n (c1, c2) = putF (c1, c2) xs := by rw [HF.out, if_neg (by rw [HNO.out]; simp), HY.out]
          rw [hres] at hfin
          have hln' : (putF (c1, c2) xs).length = n + 1 := by rw [← hres, List.length_set]; exact HYL.out
          have := own_of_held (cap := cap1) hfin (by rw [hln']; have := HSP.out; rw [List.length_append, List.length_singleton, ← HN.out] at this; exact this) hgb hcm
          rw [hln'] at this ⊢
          exact this
        · obtain rfl : cap1 = n + 1 := by omega
          obtain ⟨w2, hw2⟩ : ∃ w2, w2 = w1.drew := ⟨_, rfl⟩
          have hH2 : Held w2 g (xs ++ [(c1, c2)]) sp := by rw [hw2]; exact hH1
          have hK2 : Keeps (fun i => i = g) w1.drew w2 := by rw [hw2]; exact Keeps.refl _ _
          have hcp : ∀ a' c' m c'', (Builtin.copy_ #[24, 24] 3 #[.slice a' 0 c', .slice (some ⟨g, n * 2, none⟩) m c'']).run Try.prog w1.drew = .ok (goInt 0) w2 := fun a' c' m c'' => by rw [hw2]; exact copy_zero w1.drew 0 rfl a' _ _ m _
          obtain ⟨ys, hys⟩ : ∃ ys, ys = xs ++ [(c1, c2)] := ⟨_, rfl⟩
          rw [← hys] at hH2
          have hyln : ys.length = n + 1 := by rw [hys, List.length_append, List.length_singleton, HN.out]
          have hyl : n < ys.length := by omega
          have hset : ys.set n (c1, c2) = xs.take n ++ (c1, c2) :: xs.drop n := by
            have hl := HN.out
            rw [hys, List.set_append_right _ _ (by omega), List.take_of_length_le (by omega), List.drop_eq_nil_of_le (by omega), show n - xs.length = 0 by omega]
            rfl
          have HY := Lib.hid hset
          have HYL := Lib.hid hyln
          have HW2 := Lib.hid hw2
          clear hys hset hyln hw2
          have HK := Lib.hid hK1
          have HK2 := Lib.hid hK2
          have HG := Lib.hid hgw
          have x0 : w2.cell? ⟨w.heap.size, 0, none⟩ = some (.int .i64 c1) := (hK2.cell (p := ⟨w.heap.size, 0, none⟩) (lt_of_block hbx1) hgne).trans (Joins.cell_of_block hbx1 0)
          have x1 : w2.cell? ⟨w.heap.size, 1, none⟩ = some (.int .i64 c2) := (hK2.cell (p := ⟨w.heap.size, 1, none⟩) (lt_of_block hbx1) hgne).trans (Joins.cell_of_block hbx1 1)
          have f0 := hH2.free (n * 2)
          have f1 := hH2.free (n * 2 + 1)
          obtain ⟨z, hz⟩ : ∃ z, ys[n]? = some z := ⟨ys[n]'hyl, by simp⟩
          have y0 := hH2.x hz
          have y1 := hH2.y hz
          have HH2 := Lib.hid hH2
          have HSP := Lib.hid hspl
          clear hK1 hK2 hgw hH2 hz hspl hH1 ho2 ef hbx1 hown1 hgrow1 hat1
          have hw1 : IntKind.i64.wrap ((n : Int) + 1) = (n : Int) + 1 := wrap_small _ (by omega) (by omega)
          have hw2 : ((n : Int) + 1).toNat = n + 1 := by omega
          have hw3 : (0 : Int) ≤ (n : Int) + 1 := by omega
          have hw4 : (n : Int) + 1 ≤ (n : Int) + 1 := by omega
          have hw6 : ¬ (n + 1) = n := by omega
          have hw7 : (n : Int) ≤ (n : Int) + 1 := by omega
          go_region_law (fail)
          go_wp2_with fail
          go_ret
          refine ⟨_, rfl, ?_, ((HK.out.drew.trans HK2.out (fun i hi e => by subst e; exact HG.out hi)).setCell (fun h => HG.out h) _).setCell (fun h => HG.out h) _⟩
          have hfin := HH2.out.set (k := n) hyl (c1, c2)
          have hres : ys.set n (c1, c2) = putF (c1, c2) xs := by rw [HF.out, if_neg (by rw [HNO.out]; simp), HY.out]
          rw [hres] at hfin
          have hln' : (putF (c1, c2) xs).length = n + 1 := by rw [← hres, List.length_set]; exact HYL.out
          have := own_of_held (cap := n + 1) hfin (by rw [hln']; have := HSP.out; rw [List.length_append, List.length_singleton, ← HN.out] at this; exact this) hgb hcm
          rw [hln'] at this ⊢
          exact this
end Go.Proofs.Ytabhpbkkjijfjaa
