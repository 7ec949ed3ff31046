/-
  Are two requests alike: the document's SameRequest, the program's same.
-/
import Derived.Test.YtdmamecfmfhlmaaGreatDoorZSpeechWritesSameAll
namespace Go.Proofs.YtdmamecfmfhlmaaGreatDoor
set_option maxRecDepth 100000
open Go.RowKit

theorem same_txt (s t : List UInt8) : ((txt s).toList == (txt t).toList) = decide (s = t) := by
  rw [txt_toList, txt_toList, Bool.eq_iff_iff, beq_iff_eq, decide_eq_true_iff]
theorem sameA_iff (a b : Ask) : sameA a b = true ↔ a.verb = b.verb ∧ a.name = b.name ∧ a.other = b.other ∧ a.b = b.b ∧ a.l = b.l ∧ a.n = b.n ∧ a.cells = b.cells := by
  unfold sameA
  simp only [Bool.and_eq_true, decide_eq_true_eq, and_assoc]
theorem sameA_not {a b : Ask} (h : ¬ (a.verb = b.verb ∧ a.name = b.name ∧ a.other = b.other ∧ a.b = b.b ∧ a.l = b.l ∧ a.n = b.n ∧ a.cells = b.cells)) : sameA a b = false := Bool.eq_false_iff.2 fun e => h ((sameA_iff a b).1 e)
set_option maxHeartbeats 8000000 in
theorem sameReqG_any (p q : Ask) (a a' : Option Addr) (cap cap' : Nat) (w : World) (h1 : Sl w 2 16 a p.cells.length cap (p.cells.flatMap encCell)) (h2 : Sl w 2 16 a' q.cells.length cap' (q.cells.flatMap encCell)) :
    Calls Tryz.prog 15 #[.agg (p.cells' (.slice a p.cells.length cap)).toArray, .agg (q.cells' (.slice a' q.cells.length cap')).toArray] w fun e w' => e = .returned (.bool (sameA p q)) ∧ Below w.heap.size w w' := by
  obtain ⟨v, nm, ot, rb, rl, nn, xs⟩ := p
  obtain ⟨v', nm', ot', rb', rl', nn', ys⟩ := q
  show Calls Tryz.prog 15 #[.agg #[.int .i64 v, .string (txt nm), .string (txt ot), .int .i64 rb, .int .i64 rl, .int .i64 nn, .slice a xs.length cap], .agg #[.int .i64 v', .string (txt nm'), .string (txt ot'), .int .i64 rb', .int .i64 rl', .int .i64 nn', .slice a' ys.length cap']] w _
  have HB := Lib.hid (show Below w.heap.size w ((w.alloc (.cells #[.int .i64 v, .string (txt nm), .string (txt ot), .int .i64 rb, .int .i64 rl, .int .i64 nn, .slice a xs.length cap] 26)).alloc (.cells #[.int .i64 v', .string (txt nm'), .string (txt ot'), .int .i64 rb', .int .i64 rl', .int .i64 nn', .slice a' ys.length cap'] 26)) from ((Below.refl _ _).alloc (Nat.le_refl _) _).alloc (by simp) _)
  have HS := Lib.hid (fun W (hW : Below w.heap.size w W) => sameCG_any xs ys a a' cap cap' W (h1.below (by decide) hW) (h2.below (by decide) hW))
  dsimp only at h1 h2
  obtain ⟨A, hA⟩ : ∃ x, x = sameA ⟨v, nm, ot, rb, rl, nn, xs⟩ ⟨v', nm', ot', rb', rl', nn', ys⟩ := ⟨_, rfl⟩
  rw [← hA]
  have HA := Lib.hid hA
  obtain ⟨N, hN⟩ : ∃ x, x = txt nm := ⟨_, rfl⟩
  obtain ⟨N', hN'⟩ : ∃ x, x = txt nm' := ⟨_, rfl⟩
  obtain ⟨O, hO⟩ : ∃ x, x = txt ot := ⟨_, rfl⟩
  obtain ⟨O', hO'⟩ : ∃ x, x = txt ot' := ⟨_, rfl⟩
  obtain ⟨n, hn⟩ : ∃ x, x = xs.length := ⟨_, rfl⟩
  obtain ⟨m, hm⟩ : ∃ x, x = ys.length := ⟨_, rfl⟩
  rw [← hn, ← hm, ← hN, ← hN', ← hO, ← hO'] at HB
  rw [← hn, ← hm] at HS
  rw [← hn] at h1
  rw [← hm] at h2
  rw [← hn, ← hm, ← hN, ← hN', ← hO, ← hO']
  have e2 : (N.toList == N'.toList) = decide (nm = nm') := by rw [hN, hN', same_txt]
  have e3 : (O.toList == O'.toList) = decide (ot = ot') := by rw [hO, hO', same_txt]
  have HN := Lib.hid hn
  have HM := Lib.hid hm
  have HE2 := Lib.hid e2
  have HE3 := Lib.hid e3
  clear h1 h2
  clear hA hN hN' hO hO' hn hm e2 e3
  by_cases h1' : v = v'
  rotate_left
  · have HF := Lib.hid (HA.out.trans (sameA_not (fun e => h1' e.1)))
    have t1 : (v == v') = false := by rw [beq_eq_false_iff_ne]; exact h1'
    have t2 : (v != v') = true := by rw [bne_iff_ne]; exact h1'
    have HH := Lib.hid h1'
    clear h1'
    go_enter Tryz.func15, Tryz.ntmps15
    go_wp2_with fail
    go_ret
    exact ⟨by rw [HF.out]; rfl, HB.out⟩
  subst h1'
  by_cases h2' : nm = nm'
  rotate_left
  · have HF := Lib.hid (HA.out.trans (sameA_not (fun e => h2' e.2.1)))
    have t1 : (N.toList == N'.toList) = false := by rw [HE2.out]; exact decide_eq_false h2'
    have HH := Lib.hid h2'
    clear h2'
    go_enter Tryz.func15, Tryz.ntmps15
    go_wp2_with fail
    go_ret
    exact ⟨by rw [HF.out]; rfl, HB.out⟩
  have T2 : (N.toList == N'.toList) = true := by rw [HE2.out]; exact decide_eq_true h2'
  have H2 := Lib.hid h2'
  clear h2'
  by_cases h3' : ot = ot'
  rotate_left
  · have HF := Lib.hid (HA.out.trans (sameA_not (fun e => h3' e.2.2.1)))
    have t1 : (O.toList == O'.toList) = false := by rw [HE3.out]; exact decide_eq_false h3'
    have HH := Lib.hid h3'
    clear h3'
    go_enter Tryz.func15, Tryz.ntmps15
    go_wp2_with fail
    go_ret
    exact ⟨by rw [HF.out]; rfl, HB.out⟩
  have T3 : (O.toList == O'.toList) = true := by rw [HE3.out]; exact decide_eq_true h3'
  have H3 := Lib.hid h3'
  clear h3'
  by_cases h4' : rb = rb'
  rotate_left
  · have HF := Lib.hid (HA.out.trans (sameA_not (fun e => h4' e.2.2.2.1)))
    have t1 : (rb == rb') = false := by rw [beq_eq_false_iff_ne]; exact h4'
    have HH := Lib.hid h4'
    clear h4'
    go_enter Tryz.func15, Tryz.ntmps15
    go_wp2_with fail
    go_ret
    exact ⟨by rw [HF.out]; rfl, HB.out⟩
  subst h4'
  by_cases h5' : rl = rl'
  rotate_left
  · have HF := Lib.hid (HA.out.trans (sameA_not (fun e => h5' e.2.2.2.2.1)))
    have t1 : (rl == rl') = false := by rw [beq_eq_false_iff_ne]; exact h5'
    have HH := Lib.hid h5'
    clear h5'
    go_enter Tryz.func15, Tryz.ntmps15
    go_wp2_with fail
    go_ret
    exact ⟨by rw [HF.out]; rfl, HB.out⟩
  subst h5'
  by_cases h6' : nn = nn'
  rotate_left
  · have HF := Lib.hid (HA.out.trans (sameA_not (fun e => h6' e.2.2.2.2.2.1)))
    have t1 : (nn == nn') = false := by rw [beq_eq_false_iff_ne]; exact h6'
    have t2 : (nn != nn') = true := by rw [bne_iff_ne]; exact h6'
    have HH := Lib.hid h6'
    clear h6'
    go_enter Tryz.func15, Tryz.ntmps15
    go_wp2_with fail
    go_ret
    exact ⟨by rw [HF.out]; rfl, HB.out⟩
  subst h6'
  have HF := Lib.hid (show A = decide (xs = ys) by
    by_cases e : xs = ys
    · rw [decide_eq_true e, HA.out]; exact (sameA_iff _ _).2 ⟨rfl, H2.out, H3.out, rfl, rfl, rfl, e⟩
    · rw [decide_eq_false e, HA.out]; exact sameA_not (fun h => e h.2.2.2.2.2.2))
  go_enter Tryz.func15, Tryz.ntmps15
  go_wp2_with fail
  refine (HS.out _ HB.out).mono ?_
  rintro e w' ⟨rfl, hb⟩
  go_wp2_with fail
  go_ret
  exact ⟨by rw [HF.out]; rfl, HB.out.trans (hb.mono HB.out.size)⟩
set_option maxHeartbeats 8000000 in
theorem sameP_any (p q : Ask) (a a' : Option Addr) (cap cap' : Nat) (w : World) (h1 : Sl w 2 16 a p.cells.length cap (p.cells.flatMap encCell)) (h2 : Sl w 2 16 a' q.cells.length cap' (q.cells.flatMap encCell)) :
    Calls Tryz.prog 10 #[.agg (p.cells' (.slice a p.cells.length cap)).toArray, .agg (q.cells' (.slice a' q.cells.length cap')).toArray] w fun e w' => e = .returned (.bool (sameA p q)) ∧ Below w.heap.size w w' := by
  obtain ⟨v, nm, ot, rb, rl, nn, xs⟩ := p
  obtain ⟨v', nm', ot', rb', rl', nn', ys⟩ := q
  show Calls Tryz.prog 10 #[.agg #[.int .i64 v, .string (txt nm), .string (txt ot), .int .i64 rb, .int .i64 rl, .int .i64 nn, .slice a xs.length cap], .agg #[.int .i64 v', .string (txt nm'), .string (txt ot'), .int .i64 rb', .int .i64 rl', .int .i64 nn', .slice a' ys.length cap']] w _
  have HB := Lib.hid (show Below w.heap.size w ((w.alloc (.cells #[.int .i64 v, .string (txt nm), .string (txt ot), .int .i64 rb, .int .i64 rl, .int .i64 nn, .slice a xs.length cap] 26)).alloc (.cells #[.int .i64 v', .string (txt nm'), .string (txt ot'), .int .i64 rb', .int .i64 rl', .int .i64 nn', .slice a' ys.length cap'] 26)) from ((Below.refl _ _).alloc (Nat.le_refl _) _).alloc (by simp) _)
  dsimp only at h1 h2
  obtain ⟨A, hA⟩ : ∃ x, x = sameA ⟨v, nm, ot, rb, rl, nn, xs⟩ ⟨v', nm', ot', rb', rl', nn', ys⟩ := ⟨_, rfl⟩
  rw [← hA]
  have HA := Lib.hid hA
  obtain ⟨N, hN⟩ : ∃ x, x = txt nm := ⟨_, rfl⟩
  obtain ⟨N', hN'⟩ : ∃ x, x = txt nm' := ⟨_, rfl⟩
  obtain ⟨O, hO⟩ : ∃ x, x = txt ot := ⟨_, rfl⟩
  obtain ⟨O', hO'⟩ : ∃ x, x = txt ot' := ⟨_, rfl⟩
  obtain ⟨n, hn⟩ : ∃ x, x = xs.length := ⟨_, rfl⟩
  obtain ⟨m, hm⟩ : ∃ x, x = ys.length := ⟨_, rfl⟩
  rw [← hn, ← hm, ← hN, ← hN', ← hO, ← hO'] at HB
  rw [← hn] at h1
  rw [← hm] at h2
  rw [← hn, ← hm, ← hN, ← hN', ← hO, ← hO']
  have e2 : (N.toList == N'.toList) = decide (nm = nm') := by rw [hN, hN', same_txt]
  have e3 : (O.toList == O'.toList) = decide (ot = ot') := by rw [hO, hO', same_txt]
  have HN := Lib.hid hn
  have HM := Lib.hid hm
  have HE2 := Lib.hid e2
  have HE3 := Lib.hid e3
  clear hA hN hN' hO hO' hn hm e2 e3
  by_cases h1' : v = v'
  rotate_left
  · have HF := Lib.hid (HA.out.trans (sameA_not (fun e => h1' e.1)))
    have t1 : (v == v') = false := by rw [beq_eq_false_iff_ne]; exact h1'
    have t2 : (v != v') = true := by rw [bne_iff_ne]; exact h1'
    have HH := Lib.hid h1'
    clear h1'
    go_enter Tryz.func10, Tryz.ntmps10
    go_wp2_with fail
    go_ret
    exact ⟨by rw [HF.out]; rfl, HB.out⟩
  subst h1'
  by_cases h2' : nm = nm'
  rotate_left
  · have HF := Lib.hid (HA.out.trans (sameA_not (fun e => h2' e.2.1)))
    have t1 : (N.toList == N'.toList) = false := by rw [HE2.out]; exact decide_eq_false h2'
    have HH := Lib.hid h2'
    clear h2'
    go_enter Tryz.func10, Tryz.ntmps10
    go_wp2_with fail
    go_ret
    exact ⟨by rw [HF.out]; rfl, HB.out⟩
  have T2 : (N.toList == N'.toList) = true := by rw [HE2.out]; exact decide_eq_true h2'
  have H2 := Lib.hid h2'
  clear h2'
  by_cases h3' : ot = ot'
  rotate_left
  · have HF := Lib.hid (HA.out.trans (sameA_not (fun e => h3' e.2.2.1)))
    have t1 : (O.toList == O'.toList) = false := by rw [HE3.out]; exact decide_eq_false h3'
    have HH := Lib.hid h3'
    clear h3'
    go_enter Tryz.func10, Tryz.ntmps10
    go_wp2_with fail
    go_ret
    exact ⟨by rw [HF.out]; rfl, HB.out⟩
  have T3 : (O.toList == O'.toList) = true := by rw [HE3.out]; exact decide_eq_true h3'
  have H3 := Lib.hid h3'
  clear h3'
  by_cases h4' : rb = rb'
  rotate_left
  · have HF := Lib.hid (HA.out.trans (sameA_not (fun e => h4' e.2.2.2.1)))
    have t1 : (rb == rb') = false := by rw [beq_eq_false_iff_ne]; exact h4'
    have HH := Lib.hid h4'
    clear h4'
    go_enter Tryz.func10, Tryz.ntmps10
    go_wp2_with fail
    go_ret
    exact ⟨by rw [HF.out]; rfl, HB.out⟩
  subst h4'
  by_cases h5' : rl = rl'
  rotate_left
  · have HF := Lib.hid (HA.out.trans (sameA_not (fun e => h5' e.2.2.2.2.1)))
    have t1 : (rl == rl') = false := by rw [beq_eq_false_iff_ne]; exact h5'
    have HH := Lib.hid h5'
    clear h5'
    go_enter Tryz.func10, Tryz.ntmps10
    go_wp2_with fail
    go_ret
    exact ⟨by rw [HF.out]; rfl, HB.out⟩
  subst h5'
  by_cases h6' : nn = nn'
  rotate_left
  · have HF := Lib.hid (HA.out.trans (sameA_not (fun e => h6' e.2.2.2.2.2.1)))
    have t1 : (nn == nn') = false := by rw [beq_eq_false_iff_ne]; exact h6'
    have t2 : (nn != nn') = true := by rw [bne_iff_ne]; exact h6'
    have HH := Lib.hid h6'
    clear h6'
    go_enter Tryz.func10, Tryz.ntmps10
    go_wp2_with fail
    go_ret
    exact ⟨by rw [HF.out]; rfl, HB.out⟩
  subst h6'
  have HF := Lib.hid (show A = decide (xs = ys) by
    by_cases e : xs = ys
    · rw [decide_eq_true e, HA.out]; exact (sameA_iff _ _).2 ⟨rfl, H2.out, H3.out, rfl, rfl, rfl, e⟩
    · rw [decide_eq_false e, HA.out]; exact sameA_not (fun h => e h.2.2.2.2.2.2))
  by_cases h7' : n = m
  rotate_left
  · have HF2 := Lib.hid (show A = false by rw [HF.out]; exact decide_eq_false (fun e => h7' (by rw [HN.out, HM.out, e])))
    have t1 : ((n : Int) == (m : Int)) = false := by rw [beq_eq_false_iff_ne]; omega
    have t2 : ((n : Int) != (m : Int)) = true := by rw [bne_iff_ne]; omega
    have HH := Lib.hid h7'
    clear h7'
    go_enter Tryz.func10, Tryz.ntmps10
    go_wp2_with fail
    go_ret
    exact ⟨by rw [HF2.out]; rfl, HB.out⟩
  subst h7'
  go_enter Tryz.func10, Tryz.ntmps10
  go_upto_region 1 with fail
  obtain ⟨V, hV⟩ : ∃ V, V = ((w.alloc (.cells #[.int .i64 v, .string N, .string O, .int .i64 rb, .int .i64 rl, .int .i64 nn, .slice a n cap] 26)).alloc (.cells #[.int .i64 v, .string N', .string O', .int .i64 rb, .int .i64 rl, .int .i64 nn, .slice a' n cap'] 26)) := ⟨_, rfl⟩
  rw [← hV] at HB ⊢
  have x1 : V.heap[w.heap.size]? = some (.cells #[.int .i64 v, .string N, .string O, .int .i64 rb, .int .i64 rl, .int .i64 nn, .slice a n cap] 26 (0, 0)) := by rw [hV]; exact blk_alloc (blk_last w _ rfl) _
  have x2 : V.heap[w.heap.size + 1]? = some (.cells #[.int .i64 v, .string N', .string O', .int .i64 rb, .int .i64 rl, .int .i64 nn, .slice a' n cap'] 26 (0, 0)) := by rw [hV]; exact blk_last _ _ (by simp)
  have HX1 := Lib.hid x1
  have HX2 := Lib.hid x2
  obtain ⟨⟨c0, c1, c2, c3, c4, c5, c6⟩, -⟩ := seven x1
  obtain ⟨⟨d0, d1, d2, d3, d4, d5, d6⟩, -⟩ := seven x2
  have s1 := h1.below (by decide) HB.out
  have s2 := h2.below (by decide) HB.out
  have HS1 := Lib.hid s1
  have HS2 := Lib.hid s2
  have hwide := h1.wide
  clear hV x1 x2 h1 h2 s1 s2
  go_wp2_with fail
  clear c0 c1 c2 c3 c4 c5 c6 d0 d1 d2 d3 d4 d5 d6
  go_loopw [5, 51] (fun _ i wr => ∃ k : Nat, i = .int .i64 k ∧ k ≤ n ∧ Aside (xs.take k = ys.take k) ∧ Below V.heap.size V wr) (fun _ i _ => n - (intOf i).toNat)
  case atStart => exact ⟨0, rfl, Nat.zero_le _, rfl, Below.refl _ _⟩
  case round =>
    obtain ⟨k, rfl, hk, HI, hB⟩ := hrel
    have HBB := Lib.hid hB
    obtain ⟨⟨c0, c1, c2, c3, c4, c5, c6⟩, -⟩ := seven ((hB.block _ (lt_of_block HX1.out)).trans HX1.out)
    obtain ⟨⟨d0, d1, d2, d3, d4, d5, d6⟩, -⟩ := seven ((hB.block _ (lt_of_block HX2.out)).trans HX2.out)
    have hs := hB.size
    clear hB
    by_cases hlt : k < n
    · obtain ⟨c, hc⟩ : ∃ c, xs[k]? = some c := ⟨xs[k]'(by have := HN.out; omega), by simp⟩
      obtain ⟨d, hd⟩ : ∃ d, ys[k]? = some d := ⟨ys[k]'(by have := HM.out; omega), by simp⟩
      obtain ⟨b, o, rfl, hrow⟩ := HS1.out.row (by omega)
      obtain ⟨b', o', rfl, hrow'⟩ := HS2.out.row (by omega)
      have hb := HS1.out.lt (by omega) (by omega)
      have hb' := HS2.out.lt (by omega) (by omega)
      have e0 := (HBB.out.cell (p := ⟨b, o + k * 2, none⟩) hb).trans (hrow _ _ (flat_nthC hc).1)
      have e1 : wr.cell? ⟨b, o + k * 2 + 1, none⟩ = some (.int .i64 c.2) := (HBB.out.cell (p := ⟨b, o + k * 2 + 1, none⟩) hb).trans (by have := hrow _ _ (flat_nthC hc).2; rw [← Nat.add_assoc] at this; exact this)
      have f0 := (HBB.out.cell (p := ⟨b', o' + k * 2, none⟩) hb').trans (hrow' _ _ (flat_nthC hd).1)
      have f1 : wr.cell? ⟨b', o' + k * 2 + 1, none⟩ = some (.int .i64 d.2) := (HBB.out.cell (p := ⟨b', o' + k * 2 + 1, none⟩) hb').trans (by have := hrow' _ _ (flat_nthC hd).2; rw [← Nat.add_assoc] at this; exact this)
      have HCC := Lib.hid hc
      have HDD := Lib.hid hd
      clear hc hd hrow hrow'
      obtain ⟨x, y⟩ := c
      obtain ⟨u, z⟩ := d
      dsimp only at e0 e1 f0 f1
      rcases (show (x = u ∧ y = z) ∨ (x = u ∧ y ≠ z) ∨ x ≠ u by omega) with ⟨rfl, rfl⟩ | ⟨rfl, hne⟩ | hne
      · go_wp2_with fail
        go_quiet (fail)
        go_wp2_with fail
        exact ⟨⟨k + 1, by go_num, by omega, take_next HI.out HCC.out HDD.out rfl, HBB.out.trans (Joins.below_draws _ _ _)⟩, by simp [intOf]; omega⟩
      · have HNE := Lib.hid (show A = false by rw [HF.out]; exact decide_eq_false (nth_ne HCC.out HDD.out (fun e => by simp only [Prod.mk.injEq] at e; omega)))
        have hb1 : (y == z) = false := by rw [beq_eq_false_iff_ne]; exact hne
        go_wp2_with fail
        go_quiet (fail)
        go_wp2_with fail
        go_ret
        exact ⟨by rw [HNE.out]; rfl, HB.out.trans ((HBB.out.trans (Joins.below_draws _ _ _)).mono HB.out.size)⟩
      · have HNE := Lib.hid (show A = false by rw [HF.out]; exact decide_eq_false (nth_ne HCC.out HDD.out (fun e => by simp only [Prod.mk.injEq] at e; omega)))
        have hb1 : (x == u) = false := by rw [beq_eq_false_iff_ne]; exact hne
        go_wp2_with fail
        go_quiet (fail)
        go_wp2_with fail
        go_ret
        exact ⟨by rw [HNE.out]; rfl, HB.out.trans ((HBB.out.trans (Joins.below_draws _ _ _)).mono HB.out.size)⟩
    · obtain rfl : k = n := by omega
      have HE := Lib.hid (show A = true by
        rw [HF.out]
        refine decide_eq_true ?_
        have h1 := HI.out
        have e1 : xs.take k = xs := by rw [HN.out, List.take_length]
        have e2 : ys.take k = ys := by rw [HM.out, List.take_length]
        rw [e1, e2] at h1
        exact h1)
      go_wp2_with fail
      go_ret
      exact ⟨by rw [HE.out]; rfl, HB.out.trans (HBB.out.mono HB.out.size)⟩
end Go.Proofs.YtdmamecfmfhlmaaGreatDoor
