/-
  The document's EncodeCells: the text of cells with a rule, or the error.
-/
import Derived.Test.YtdmamecfmfhlmaaDoorEncodes
import Derived.Test.YtdmamecfmfhlmaaDoorRefRuns
import Derived.Test.YtdmamecfmfhlmaaDoorRefBoxes
namespace Go.Proofs.YtdmamecfmfhlmaaDoor
set_option maxRecDepth 100000
open Go.RowKit

theorem tok_len {k : Nat} (c : UInt8) (hk : k < 9223372036854775808) : ∀ p ∈ tok k c, p.length ≤ 65 := by
  intro p hp
  unfold tok at hp
  split at hp
  · cases hp
  · rw [List.mem_singleton.1 hp]
    exact tokT_len c (by omega)
/-- Two texts one behind the other: what is laid on lines. -/
structure LaySt (H : List UInt8) (Q : List (List UInt8)) (j : Nat) (O N : List UInt8) : Prop where
  text : (layF (H, 0) (Q.take j)).1 = O ++ N
  col : (layF (H, 0) (Q.take j)).2 = N.length
  low : N.length ≤ 70
  size : O.length + N.length ≤ H.length + 70 * j
theorem LaySt.start (H : List UInt8) (Q : List (List UInt8)) : LaySt H Q 0 H [] := ⟨by simp [layF], by simp [layF], by simp, by simp⟩
theorem LaySt.step {H : List UInt8} {Q : List (List UInt8)} {j : Nat} {O N p : List UInt8} (h : LaySt H Q j O N) (hp : Q[j]? = some p) (hl : p.length ≤ 65) :
    if 70 < N.length + p.length then LaySt H Q (j + 1) (O ++ (N ++ [10])) ([] ++ p) else LaySt H Q (j + 1) O (N ++ p) := by
  have ht : Q.take (j + 1) = Q.take j ++ [p] := by
    obtain ⟨hlt, he⟩ := List.getElem?_eq_some_iff.1 hp
    rw [List.take_add_one, hp]; rfl
  have e : layF (H, 0) (Q.take (j + 1)) = layP (layF (H, 0) (Q.take j)) p := by rw [ht, layF_append, layF_one]
  have h3 := h.size
  by_cases hov : 70 < N.length + p.length
  · rw [if_pos hov]
    have e2 : layP (layF (H, 0) (Q.take j)) p = (O ++ N ++ [10] ++ p, p.length) := by rw [layP, if_pos (by rw [h.col]; exact hov), h.text]
    exact ⟨by rw [e, e2]; simp, by rw [e, e2]; simp, by simp; omega, by simp; omega⟩
  · rw [if_neg hov]
    have e2 : layP (layF (H, 0) (Q.take j)) p = (O ++ N ++ p, N.length + p.length) := by rw [layP, if_neg (by rw [h.col]; exact hov), h.text, h.col]
    exact ⟨by rw [e, e2]; simp, by rw [e, e2]; simp, by simp; omega, by simp; omega⟩
set_option maxHeartbeats 8000000 in
set_option maxRecDepth 100000 in
theorem refEncode_any (zs : List (Int × Int)) (rb rl : Int) (a : Option Addr) (cap : Nat) (w : World) (hs : Sl w 2 16 a zs.length cap (zs.flatMap encCell)) :
    Calls Tryd.prog 13 #[.slice a zs.length cap, .agg #[.int .i64 rb, .int .i64 rl]] w (Encoded w zs rb rl) := by
  have hwide := hs.wide
  obtain ⟨i0, hi, hi0, hi1, hi2⟩ := info_parts infoStr
  obtain ⟨⟨r, er⟩, hR⟩ : ∃ R, R = tidyF zs := ⟨_, rfl⟩
  have hrl : r.length ≤ 4096 := by have := tidyF_length zs; rw [← hR] at this; exact this
  have HR := Lib.hid hR
  clear hR
  go_enter Tryd.func13, Tryd.ntmps13
  go_wp2_with fail
  refine (refTidy_any zs a cap _ (hs.below (by omega) ((Below.refl _ _).alloc (Nat.le_refl _) _))).mono ?_
  intro e w1 h1
  obtain ⟨a1, c1, rfl, hb1, ht1⟩ := tidied_as HR.out h1
  have HTI := Lib.hid ht1
  have hBw1 := ((Below.refl w.heap.size w).alloc (Nat.le_refl _) (.cells #[.int .i64 rb, .int .i64 rl] 33)).trans (hb1.mono (by simp))
  have k0 : w1.heap[w.heap.size]? = some (.cells #[.int .i64 rb, .int .i64 rl] 33 (0, 0)) := by
    rw [hb1.block _ (by simp)]; exact blk_last w _ rfl
  have d0 : w1.cell? ⟨w.heap.size, 0, none⟩ = some (.int .i64 rb) := Joins.cell_of_block k0 0
  have d1 : w1.cell? ⟨w.heap.size, 1, none⟩ = some (.int .i64 rl) := Joins.cell_of_block k0 1
  have hz1 := hBw1.size
  have HB1 := Lib.hid hBw1
  clear h1 ht1 hb1 k0 hBw1
  by_cases he : er = 0
  · subst he
    by_cases hg : goodF rb rl = true
    · have HO := Lib.hid (encF_ok HR.out hg)
      have hTx := refText_yes rb rl w1 hg
      obtain ⟨t, hT⟩ : ∃ t, t = textF rb rl := ⟨_, rfl⟩
      have htl : t.length ≤ 30 := by rw [hT]; exact textF_len rb rl
      rw [← hT] at hTx HO
      obtain ⟨TX, hTX⟩ : ∃ TX, TX = txt t := ⟨_, rfl⟩
      have hTXs : TX.size ≤ 30 := by rw [hTX, txt_size]; exact htl
      have HTX := Lib.hid hTX
      rw [← hTX] at hTx
      have HTxt := Lib.hid hTx
      have HNR := Lib.hid (near_of HR.out)
      have HRI := Lib.hid (tidyF_rise HR.out)
      clear hTx hT hTX hg
      go_wp2_with fail
      refine HTxt.out.mono ?_
      rintro e w2 ⟨rfl, hb2⟩
      have hz2 := hb2.size
      have HS2 := Lib.hid ((HTI.out.below hb2).sl (by omega))
      go_wp2_with fail
      refine (refBounds_any r a1 c1 w2 HS2.out).mono ?_
      rintro e w3 ⟨rfl, hb3⟩
      obtain ⟨⟨x0, y0, x1, y1⟩, hBX⟩ : ∃ B, B = boxF r := ⟨_, rfl⟩
      rw [← hBX]
      have HBX := Lib.hid hBX
      have hz3 := hb3.size
      simp only [encBox]
      clear hBX d0 d1
      obtain ⟨hs1, hs2, hs3⟩ := side_near HNR.out HRI.out
      obtain ⟨wd, hwd⟩ : ∃ wd, wd = wideN r := ⟨_, rfl⟩
      obtain ⟨hi', hhi⟩ : ∃ hi, hi = highN r := ⟨_, rfl⟩
      rw [← hwd] at hs1 hs3
      rw [← hhi] at hs2 hs3
      rw [← HBX.out] at hs3
      simp only at hs3
      have HSD := Lib.hid hs3
      have HWH : Aside (wd = wideN r ∧ hi' = highN r) := ⟨hwd, hhi⟩
      have hWayA := Way.start HNR.out HRI.out
      rw [← HBX.out] at hWayA
      simp only at hWayA
      obtain ⟨hWay, hn1, hn2, hn3⟩ := hWayA
      have HWAY := Lib.hid hWay
      obtain ⟨qx0, qx1⟩ := hWay.edge
      obtain ⟨qy0, qy1⟩ := hWay.ny
      obtain ⟨qa0, qa1⟩ := hn1
      obtain ⟨qb0, qb1⟩ := hn2
      have hw3 : Below w.heap.size w w3 := HB1.out.trans ((hb2.trans (hb3.mono hb2.size)).mono hz1)
      obtain ⟨n, hN⟩ : ∃ n, n = r.length := ⟨_, rfl⟩
      have HW3 := Lib.hid hw3
      have HRd3 := Lib.hid ((HTI.out.below hb2).below hb3)
      have HN := Lib.hid hN
      rw [← hN] at hrl ⊢
      clear hs3 hwd hhi hWay hn3 hb2 hb3 hN hw3
      go_upto_if 45 with fail
      obtain ⟨Y, hY⟩ : ∃ Y, Y = w3.alloc (.cells #[.int .i64 x0, .int .i64 y0, .int .i64 x1, .int .i64 y1] 41) := ⟨_, rfl⟩
      rw [← hY]
      have hbx3 : Y.heap[w3.heap.size]? = some (.cells #[.int .i64 x0, .int .i64 y0, .int .i64 x1, .int .i64 y1] 41 (0, 0)) := by rw [hY]; exact blk_last w3 _ rfl
      have HBX3 := Lib.hid hbx3
      have g0 := Joins.cell_of_block hbx3 0
      have g1 := Joins.cell_of_block hbx3 1
      have g2 := Joins.cell_of_block hbx3 2
      have g3 := Joins.cell_of_block hbx3 3
      simp at g0 g1 g2 g3
      have HY := Lib.hid hY
      have hYs : Y.heap.size = w3.heap.size + 1 := by rw [hY]; simp
      clear hbx3 hY
      go_cut [11, 12] from 45 to 57 (fun s11 s12 wx => s11 = .int .i64 wd ∧ s12 = .int .i64 hi' ∧ ∃ j, wx = Y.drewN j)
      case first =>
        by_cases hn0 : n = 0
        · have hd : decide (0 < n) = false := decide_eq_false (by omega)
          have hr0 : r = [] := List.eq_nil_of_length_eq_zero (by rw [← HN.out]; exact hn0)
          have hw0 : wd = 0 := by rw [HWH.out.1, hr0]; rfl
          have hh0 : hi' = 0 := by rw [HWH.out.2, hr0]; rfl
          have HZ : Aside (wd = 0 ∧ hi' = 0) := ⟨hw0, hh0⟩
          clear hr0 hw0 hh0
          go_wp2_with fail
          go_meet
          exact ⟨by rw [HZ.out.1]; rfl, by rw [HZ.out.2]; rfl, 0, rfl⟩
        · have hd : decide (0 < n) = true := decide_eq_true (by omega)
          obtain ⟨hq1, hq2⟩ := HSD.out (by intro h; rw [h] at HN; exact hn0 HN.out)
          have HQ : Aside (x1 - x0 + 1 = (wd : Int) ∧ y1 - y0 + 1 = (hi' : Int)) := ⟨hq1, hq2⟩
          clear hq1 hq2
          go_wp2_with fail
          go_quiet (fail)
          go_wp2_with fail
          go_meet
          exact ⟨by rw [HQ.out.1], by rw [HQ.out.2], _, rfl⟩
      case rest =>
      obtain ⟨rfl, rfl, jj, rfl⟩ := hcut
      obtain ⟨V, hV⟩ : ∃ V, V = Y.drewN jj := ⟨_, rfl⟩
      rw [← hV]
      have hVY : Below Y.heap.size Y V := by rw [hV]; exact Joins.below_draws _ _ _
      have hV3 : Below w3.heap.size w3 V := ((Below.refl w3.heap.size w3).alloc (Nat.le_refl _) (.cells #[.int .i64 x0, .int .i64 y0, .int .i64 x1, .int .i64 y1] 41)).trans (by rw [← HY.out]; exact hVY.mono (by omega))
      have hVs : V.heap.size = w3.heap.size + 1 := by rw [hV]; exact hYs
      have hVb : V.heap[w3.heap.size]? = some (.cells #[.int .i64 x0, .int .i64 y0, .int .i64 x1, .int .i64 y1] 41 (0, 0)) := by rw [hVY.block _ (by omega)]; exact HBX3.out
      have HV3 := Lib.hid hV3
      have HVb := Lib.hid hVb
      clear hV hVY hV3 hVb g0 g1 g2 g3
      go_wp2_with fail
      obtain ⟨br, hbr0⟩ : ∃ br, br = w3.heap.size + 1 := ⟨_, rfl⟩
      rw [← hbr0]
      have hbr : br = V.heap.size := by omega
      obtain ⟨X, hX⟩ : ∃ X, X = V.alloc (.cells #[.slice none 0 0] 80) := ⟨_, rfl⟩
      rw [← hX]
      have hXs : X.heap.size = br + 1 := by rw [hX, hbr]; simp
      have hR0 : Aside (RunsAt br [] X) := by
        show RunsAt _ _ _
        rw [hX, hbr]; exact RunsAt.fresh V
      have hbX : Below w3.heap.size w3 X := by rw [hX]; exact HV3.out.alloc (by omega) _
      have hbox : X.heap[w3.heap.size]? = some (.cells #[.int .i64 x0, .int .i64 y0, .int .i64 x1, .int .i64 y1] 41 (0, 0)) := by rw [hX]; exact blk_alloc HVb.out _
      have hbk : ∀ W, Below br X W → W.cell? ⟨w3.heap.size, 0, none⟩ = some (.int .i64 x0) ∧ W.cell? ⟨w3.heap.size, 1, none⟩ = some (.int .i64 y0) := fun W h => by
        have hb : W.heap[w3.heap.size]? = _ := (h.block _ (by omega)).trans hbox
        exact ⟨Joins.cell_of_block hb 0, Joins.cell_of_block hb 1⟩
      have HBK := Lib.hid hbk
      have HWX := Lib.hid (HW3.out.trans (hbX.mono HW3.out.size))
      have hRd : Rd X br (.slice a1 r.length c1) r := (Rd.of_tight HRd3.out (by have := HN.out; omega)).up (Nat.le_refl _) hbX (by omega)
      have hwb : w.heap.size ≤ br := by have := HW3.out.size; omega
      have hrun : ∀ (P : List (List UInt8)) (k : Nat) (c : UInt8) (T : ByteArray) (W : World), T = txt [c] → Below br X W → Aside (RunsAt br P W) → k < 9223372036854775808 → P.length ≤ 100000 →
          Calls Tryd.prog 35 #[.int .i64 k, .string T, .pointer (some ⟨br, 0, none⟩)] W fun e w' => e = .returned (.tuple #[]) ∧ Below br X w' ∧ Aside (RunsAt br (P ++ tok k c) w') := fun P k c T W h0 h1 h2 h3 h4 =>
        (runs_any br P k c T h0 W h2.out h3 h4).mono fun e w' ⟨g1, g2, g3⟩ => ⟨g1, h1.trans g3, g2⟩
      have HRUN := Lib.hid hrun
      have HRD0 := Lib.hid hRd
      obtain ⟨ad, cp, hv, hsl, hadl⟩ := id hRd
      simp only [Value.slice.injEq] at hv
      obtain ⟨hv1, _, hv2⟩ := hv
      rw [← hv1, ← hv2] at hsl
      have HSL := Lib.hid hsl
      have hr65 : Aside (∀ p ∈ ([] : List (List UInt8)), p.length ≤ 65) := fun p hp => by cases hp
      clear hX hbr hbr0 hbX hbox hbk hRd hrun hsl hadl hv1 hv2
      go_loopw [15, 16, 17, 18, 19] (fun row col iv _ _ wr => ∃ (j f : Nat) (ry cx x y : Int) (P : List (List UInt8)), row = .int .i64 ry ∧ col = .int .i64 cx ∧ iv = .int .i64 j ∧ Aside (ry = y - y0 ∧ cx = x - x0) ∧ j ≤ n ∧ n - j ≤ f ∧ f ≤ 4096 ∧ Aside (Way x0 x y (r.drop j)) ∧ Aside (pcs x0 n x0 y0 r = P ++ pcs x0 f x y (r.drop j)) ∧ P.length + 3 * f ≤ 12288 ∧ Aside (∀ p ∈ P, p.length ≤ 65) ∧ Below br X wr ∧ Aside (RunsAt br P wr)) (fun _ _ iv _ _ _ => n - (intOf iv).toNat)
      case atStart => exact ⟨0, n, 0, 0, x0, y0, [], rfl, rfl, rfl, ⟨by omega, by omega⟩, by omega, by omega, hrl, HWAY.out, rfl, by simp; omega, hr65, Below.refl _ _, hR0⟩
      case round =>
        clear hR0 hr65
        obtain ⟨j, f, ry, cx, x, y, P, rfl, rfl, rfl, HRC, hjn, hnf, hf, HW, HE, hPl, H65, hB, HRN⟩ := hrel
        by_cases hjn0 : j < n
        · have tj1 : decide ((j : Int) < (n : Int)) = true := decide_eq_true (by omega)
          have tj2 : decide (j < n) = true := decide_eq_true hjn0
          obtain ⟨b, o, rfl, _⟩ := HSL.out.row (by rw [← HN.out]; omega)
          obtain ⟨⟨p1, p2⟩, hd0⟩ : ∃ c, r[j]? = some c := ⟨_, List.getElem?_eq_getElem (by rw [← HN.out]; exact hjn0)⟩
          have hSe : r.drop j = (p1, p2) :: r.drop (j + 1) := by
            obtain ⟨hl, he⟩ := List.getElem?_eq_some_iff.1 hd0
            rw [List.drop_eq_getElem_cons hl, he]
          have hm : (r.drop j).length = n - j := by rw [List.length_drop, ← HN.out]
          have hat : ∀ (W : World) (k : Nat) (d : Int × Int), Below br X W → r[k]? = some d → W.cell? ⟨b, o + k * 2, none⟩ = some (.int .i64 d.1) ∧ W.cell? ⟨b, o + k * 2 + 1, none⟩ = some (.int .i64 d.2) := fun W k d h hd => HRD0.out.at_ h hd
          have HAT := Lib.hid hat
          have hnear : ∀ (k : Nat) (d : Int × Int), r[k]? = some d → Near d.1 ∧ Near d.2 := fun k d hd => HWAY.out.near d (List.mem_of_getElem? hd)
          have HNEAR := Lib.hid hnear
          obtain ⟨⟨nc1, nc2⟩, nc3, nc4⟩ := hnear _ _ hd0
          obtain ⟨nx1, nx2⟩ := HW.out.nx
          obtain ⟨ny1, ny2⟩ := HW.out.ny
          have nl := HW.out.left (p1, p2) (by rw [hSe]; exact List.mem_cons_self ..)
          obtain ⟨nh1, nh2⟩ := HW.out.head _ _ hSe
          simp only at nc1 nc2 nc3 nc4 nl nh1 nh2
          obtain ⟨f', rfl⟩ : ∃ f', f = f' + 1 := ⟨f - 1, by omega⟩
          obtain ⟨N, hNd⟩ : ∃ N, N = runN (p1, p2) 0 (r.drop j) := ⟨_, rfl⟩
          have hNp : 0 < N ∧ N ≤ n - j := by rw [hNd, ← hm, hSe]; exact runN_pos _ _
          obtain ⟨hN0, hNm⟩ := hNp
          obtain ⟨K, hK⟩ : ∃ K, K = j + N := ⟨_, rfl⟩
          have hKn : K ≤ n := by omega
          have HW2 := Lib.hid (show Way x0 (p1 + (N : Nat)) p2 (r.drop K) by
            have h := HW.out
            rw [hSe] at h
            have h2 := h.next (by rw [← hSe, hm]; omega)
            rw [← hSe, ← hNd, List.drop_drop, ← hK] at h2
            exact h2)
          obtain ⟨x', hx'⟩ : ∃ x', x' = if y < p2 then x0 else x := ⟨_, rfl⟩
          have HE2 : Aside (pcs x0 n x0 y0 r = P ++ tok (p2 - y).toNat 36 ++ tok (p1 - x').toNat 98 ++ tok N 111 ++ pcs x0 f' (p1 + (N : Nat)) p2 (r.drop K)) := by
            show _ = _
            rw [HE.out, hSe, pcs, ← hSe, ← hNd, List.drop_drop, ← hK, ← hx']
            simp only [List.append_assoc]
          have hx1 : x' = x0 ∨ x' = x := by rw [hx']; split <;> simp
          have hx2 : x' ≤ p1 := by
            rw [hx']
            split
            · exact nl
            · exact nh2 (by omega)
          have hx3 : y < p2 → x' = x0 := fun h => by rw [hx', if_pos h]
          have hx4 : ¬ y < p2 → x' = x ∧ y = p2 := fun h => ⟨by rw [hx', if_neg h], by omega⟩
          have hx5 : -1099511627776 < x' ∧ x' < 1099511636000 := by rcases hx1 with h | h <;> rw [h] <;> omega
          have HX3 := Lib.hid hx3
          have HX4 := Lib.hid hx4
          obtain ⟨k1, hk1⟩ : ∃ k1, k1 = (p2 - y).toNat := ⟨_, rfl⟩
          obtain ⟨k2, hk2⟩ : ∃ k2, k2 = (p1 - x').toNat := ⟨_, rfl⟩
          rw [← hk1, ← hk2] at HE2
          obtain ⟨hrc1, hrc2⟩ := HRC.out
          obtain ⟨gy, hgy⟩ : ∃ gy, p2 - y0 = gy := ⟨_, rfl⟩
          obtain ⟨gx, hgx⟩ : ∃ gx, p1 - x0 = gx := ⟨_, rfl⟩
          obtain ⟨cxx, hcxx⟩ : ∃ cxx, cxx = x' - x0 := ⟨_, rfl⟩
          have hk1I : gy - ry = (k1 : Int) := by omega
          have hk2I : gx - cxx = (k2 : Int) := by omega
          have hkb : k1 < 9223372036854775808 ∧ k2 < 9223372036854775808 := by omega
          have HFY := Lib.hid (show (y < p2 → gy > ry) ∧ (¬ y < p2 → gy = ry ∧ cxx = cx ∧ k1 = 0) ∧ (y < p2 → cxx = 0) from ⟨fun h => by omega, fun h => by obtain ⟨h1, h2⟩ := hx4 h; omega, fun h => by have := hx3 h; omega⟩)
          have HGR := Lib.hid (show -4398046511104 < ry ∧ ry < 4398046511104 ∧ -4398046511104 < gy ∧ gy < 4398046511104 ∧ -4398046511104 < gx ∧ gx < 4398046511104 ∧ -4398046511104 < cxx ∧ cxx < 4398046511104 by omega)
          have HGY := Lib.hid hgy
          have HGX := Lib.hid hgx
          have HK1 := Lib.hid hk1I
          have HK2 := Lib.hid hk2I
          have HP65 : Aside (∀ p ∈ P ++ tok k1 36 ++ tok k2 98 ++ tok N 111, p.length ≤ 65) := fun p hp => by
            simp only [List.mem_append] at hp
            rcases hp with ((hp | hp) | hp) | hp
            · exact H65.out p hp
            · exact tok_len _ hkb.1 p hp
            · exact tok_len _ hkb.2 p hp
            · exact tok_len _ (by omega) p hp
          have hc1 := tok_count k1 36
          have hc2 := tok_count k2 98
          have hc3 := tok_count N 111
          have hp1 : ∀ W, Below br X W ∧ Aside (RunsAt br P W) → Calls Tryd.prog 35 #[.int .i64 k1, .string ⟨#[36]⟩, .pointer (some ⟨br, 0, none⟩)] W fun e w' => e = .returned (.tuple #[]) ∧ Below br X w' ∧ Aside (RunsAt br (P ++ tok k1 36) w') := fun W ⟨h1, h2⟩ => HRUN.out P k1 36 _ W rfl h1 h2 hkb.1 (by omega)
          have hp2 : ∀ W, Below br X W ∧ Aside (RunsAt br (P ++ tok k1 36) W) → Calls Tryd.prog 35 #[.int .i64 k2, .string ⟨#[98]⟩, .pointer (some ⟨br, 0, none⟩)] W fun e w' => e = .returned (.tuple #[]) ∧ Below br X w' ∧ Aside (RunsAt br (P ++ tok k1 36 ++ tok k2 98) w') := fun W ⟨h1, h2⟩ => HRUN.out _ k2 98 _ W rfl h1 h2 hkb.2 (by rw [List.length_append]; omega)
          have hp3 : ∀ W, Below br X W ∧ Aside (RunsAt br (P ++ tok k1 36 ++ tok k2 98) W) → Calls Tryd.prog 35 #[.int .i64 N, .string ⟨#[111]⟩, .pointer (some ⟨br, 0, none⟩)] W fun e w' => e = .returned (.tuple #[]) ∧ Below br X w' ∧ Aside (RunsAt br (P ++ tok k1 36 ++ tok k2 98 ++ tok N 111) w') := fun W ⟨h1, h2⟩ => HRUN.out _ N 111 _ W rfl h1 h2 (by omega) (by rw [List.length_append, List.length_append]; omega)
          have hcnt : (P ++ tok k1 36 ++ tok k2 98 ++ tok N 111).length + 3 * f' ≤ 12288 := by rw [List.length_append, List.length_append, List.length_append]; omega
          have HP1 := Lib.hid hp1
          have HP2 := Lib.hid hp2
          have HP3 := Lib.hid hp3
          have HR0 : Aside (runN (p1, p2) (j - j) (r.drop j) = N) := by show _ = _; rw [Nat.sub_self]; exact hNd.symm
          have hcell : ∀ W, Below br X W → W.cell? ⟨b, o + j * 2, none⟩ = some (.int .i64 p1) ∧ W.cell? ⟨b, o + j * 2 + 1, none⟩ = some (.int .i64 p2) ∧ W.cell? ⟨w3.heap.size, 0, none⟩ = some (.int .i64 x0) ∧ W.cell? ⟨w3.heap.size, 1, none⟩ = some (.int .i64 y0) := fun W h => ⟨(hat W j _ h hd0).1, (hat W j _ h hd0).2, (HBK.out W h).1, (HBK.out W h).2⟩
          have HCL := Lib.hid hcell
          have HKJ := Lib.hid hK
          have HCXX := Lib.hid hcxx
          clear hd0 hSe hm hat hnear nh2 hNd hx' hx1 hx3 hx4 hk1 hk2 hrc1 hrc2 hgy hgx hcxx hk1I hk2I hp1 hp2 hp3 hcell HE HW H65 hc1 hc2 hc3 hPl hK
          go_upto_block 2 with fail
          go_cut [18] from 64 to 99 (fun s18 wx => s18 = .int .i64 K ∧ Below br X wx ∧ Aside (RunsAt br P wx))
          case first =>
            go_wp2_with fail
            go_loopw [18] (fun kv ws => ∃ k : Nat, kv = .int .i64 k ∧ j ≤ k ∧ k ≤ n ∧ Aside (runN (p1, p2) (k - j) (r.drop k) = N) ∧ Below br X ws ∧ Aside (RunsAt br P ws)) (fun kv _ => n - (intOf kv).toNat)
            case atStart => exact ⟨j, rfl, Nat.le_refl _, hjn, HR0, hB, HRN⟩
            case round =>
              clear hB HRN HR0
              obtain ⟨k, rfl, hjk, hkn, HRK, hB, HRN⟩ := hrel
              obtain ⟨v0, v1, _, _⟩ := HCL.out _ hB
              by_cases hlt : k < n
              · have dd1 : decide ((k : Int) < (n : Int)) = true := decide_eq_true (by omega)
                have dd2 : decide (k < n) = true := decide_eq_true hlt
                obtain ⟨⟨d1, d2⟩, hd⟩ : ∃ d, r[k]? = some d := ⟨_, List.getElem?_eq_getElem (by rw [← HN.out]; exact hlt)⟩
                have hdr : r.drop k = (d1, d2) :: r.drop (k + 1) := by
                  obtain ⟨hl, he⟩ := List.getElem?_eq_some_iff.1 hd
                  rw [List.drop_eq_getElem_cons hl, he]
                have HDR := Lib.hid hdr
                obtain ⟨v2, v3⟩ := HAT.out _ _ _ hB hd
                simp only at v2 v3
                obtain ⟨⟨m1, m2⟩, m3, m4⟩ := HNEAR.out _ _ hd
                simp only at m1 m2 m3 m4
                obtain ⟨q, hq⟩ : ∃ q, q = k - j := ⟨_, rfl⟩
                have hqI : (k : Int) - (j : Int) = (q : Int) := by omega
                obtain ⟨dx, hdx⟩ : ∃ dx, d1 - p1 = dx := ⟨_, rfl⟩
                rw [← hq] at HRK
                have HQ := Lib.hid hq
                have hk1j : k + 1 - j = q + 1 := by omega
                have HK1J := Lib.hid hk1j
                have HDX := Lib.hid hdx
                clear hd hdr hq hk1j
                by_cases hy : d2 = p2
                · subst hy
                  have he1 : (d2 == d2) = true := by simp
                  by_cases hx : dx = (q : Int)
                  · have he2 : (dx == (q : Int)) = true := by simpa using hx
                    have HX : Aside (d1 = p1 + (q : Nat)) := by show _ = _; omega
                    clear hx
                    go_wp2_with fail
                    go_quiet (fail)
                    go_wp2_with fail
                    refine ⟨⟨k + 1, by go_num, by omega, by omega, ?_, hB.trans (Joins.below_draws _ _ _), HRN.out.below (Joins.below_draws _ _ _)⟩, by simp [intOf]; omega⟩
                    show _ = _
                    rw [HK1J.out, ← HRK.out, HDR.out, runN, if_pos ⟨rfl, HX.out⟩]
                  · have he2 : (dx == (q : Int)) = false := by simpa using hx
                    have HNQ := Lib.hid (show q = N by rw [← HRK.out, HDR.out, runN, if_neg (fun h => hx (by have := h.2; simp only at this; omega))])
                    have HKK := Lib.hid (show (k : Int) = (K : Int) by have := HNQ.out; have := HKJ.out; have := HQ.out; omega)
                    clear hx
                    go_wp2_with fail
                    go_quiet (fail)
                    go_wp2_with fail
                    go_meet
                    exact ⟨by rw [HKK.out], hB.trans (Joins.below_draws _ _ _), HRN.out.below (Joins.below_draws _ _ _)⟩
                · have he1 : (d2 == p2) = false := by simpa using hy
                  have HNQ := Lib.hid (show q = N by rw [← HRK.out, HDR.out, runN, if_neg (fun h => hy h.1)])
                  have HKK := Lib.hid (show (k : Int) = (K : Int) by have := HNQ.out; have := HKJ.out; have := HQ.out; omega)
                  clear hy
                  go_wp2_with fail
                  go_quiet (fail)
                  go_wp2_with fail
                  go_meet
                  exact ⟨by rw [HKK.out], hB.trans (Joins.below_draws _ _ _), HRN.out.below (Joins.below_draws _ _ _)⟩
              · have dd1 : decide ((k : Int) < (n : Int)) = false := decide_eq_false (by omega)
                have dd2 : decide (k < n) = false := decide_eq_false hlt
                have HNQ := Lib.hid (show k - j = N by
                  have hkn' : k = r.length := by have := HN.out; omega
                  rw [← HRK.out, hkn', List.drop_length, runN])
                have HKK := Lib.hid (show (k : Int) = (K : Int) by have := HNQ.out; have := HKJ.out; omega)
                go_wp2_with fail
                go_quiet (fail)
                go_wp2_with fail
                go_meet
                exact ⟨by rw [HKK.out], hB.trans (Joins.below_draws _ _ _), HRN.out.below (Joins.below_draws _ _ _)⟩
          case rest =>
          obtain ⟨rfl, hcb, hcr⟩ := hcut
          clear hB HRN HR0
          obtain ⟨u1, u2, u3, u4⟩ := HCL.out _ hcb
          obtain ⟨gr1, gr2, gr3, gr4, gr5, gr6, gr7, gr8⟩ := HGR.out
          have egy := HGY.out
          go_wp2_with fail
          go_quiet (fail)
          clear u1 u2 u3 u4 egy
          go_upto_if 110 with fail
          go_cut [15, 16] from 110 to 116 (fun s15 s16 wx => s15 = .int .i64 gy ∧ s16 = .int .i64 cxx ∧ Below br X wx ∧ Aside (RunsAt br (P ++ tok k1 36) wx))
          case first =>
            have hcb2 : Below br X (wc.drewN nq) := hcb.trans (Joins.below_draws _ _ _)
            have hcr2 : Aside (RunsAt br P (wc.drewN nq)) := hcr.out.below (Joins.below_draws _ _ _)
            by_cases hyy : y < p2
            · have tg := HFY.out.1 hyy
              have tg1 : decide (gy > ry) = true := decide_eq_true tg
              have tg2 : decide (ry < gy) = true := decide_eq_true tg
              have ek1 := HK1.out
              have HC0 := Lib.hid (HFY.out.2.2 hyy)
              go_wp2_with fail
              refine (HP1.out _ ⟨hcb2, hcr2⟩).mono ?_
              rintro e w6 ⟨rfl, hb6, hr6⟩
              go_wp2_with fail
              go_meet
              exact ⟨rfl, by rw [HC0.out], hb6, hr6⟩
            · obtain ⟨tg, hcc, hk10⟩ := HFY.out.2.1 (by omega)
              have tg1 : decide (gy > ry) = false := decide_eq_false (by omega)
              have tg2 : decide (ry < gy) = false := decide_eq_false (by omega)
              have HT := Lib.hid tg
              have HC0 := Lib.hid hcc
              have HK0 := Lib.hid hk10
              have tg3 : gy ≤ ry := by omega
              clear tg hcc hk10
              go_wp2_with fail
              go_meet
              refine ⟨by rw [HT.out], by rw [HC0.out], hcb2, ?_⟩
              rw [HK0.out, show tok 0 36 = [] from rfl, List.append_nil]
              exact hcr2
          case rest =>
          clear hcb hcr
          obtain ⟨rfl, rfl, hcb, hcr⟩ := hcut
          have h6d : Below br X wc.drew ∧ Aside (RunsAt br (P ++ tok k1 36) wc.drew) := ⟨hcb.drew, hcr.out.below (Below.refl _ _).drew⟩
          have HKK := Lib.hid (fun W (h : Below br X W) => (⟨(HCL.out W h).1, (HCL.out W h).2.2.1⟩ : W.cell? ⟨b, o + j * 2, none⟩ = some (.int .i64 p1) ∧ W.cell? ⟨w3.heap.size, 0, none⟩ = some (.int .i64 x0)))
          have egx := HGX.out
          have ek2 := HK2.out
          have ew1 : IntKind.i64.wrap gx = gx := by rw [IntKind.wrap_i64]; omega
          have ew2 : IntKind.i64.wrap (k2 : Int) = (k2 : Int) := by rw [IntKind.wrap_i64]; omega
          go_wp2_with fail
          go_region_held3 (fun w' => w'.cell? ⟨b, o + j * 2, none⟩ = some (.int .i64 p1) ∧ w'.cell? ⟨w3.heap.size, 0, none⟩ = some (.int .i64 x0)) (first | exact HKK.out _ h6d.1 | exact HKK.out _ h7.1) ((first | (go_at_call 35; with_reducible refine (HP2.out _ (by assumption)).mono ?_; rintro e w7 ⟨rfl, h7⟩)))
          all_goals
            obtain ⟨h71, h72⟩ := h7
            clear egx ek2 ew1 ew2
            have e3 : (K : Int) - (j : Int) = (N : Int) := by have := HKJ.out; omega
            go_wp2_with fail
            refine (HP3.out _ ⟨h71, h72⟩).mono ?_
            rintro e w8 ⟨rfl, h81, h82⟩
            clear e3
            obtain ⟨u1, u2, u3, u4⟩ := HCL.out _ h81
            have egx := HGX.out
            obtain ⟨gK, hgK⟩ : ∃ gK, gx + (K : Int) = gK := ⟨_, rfl⟩
            obtain ⟨cn, hcn⟩ : ∃ cn, gK - (j : Int) = cn := ⟨_, rfl⟩
            have hbn : -8796093022208 < gK ∧ gK < 8796093022208 ∧ -8796093022208 < cn ∧ cn < 8796093022208 := by omega
            obtain ⟨bn1, bn2, bn3, bn4⟩ := hbn
            have HCN : Aside (gy = p2 - y0 ∧ cn = p1 + (N : Nat) - x0) := by
              have h1 := HGX.out
              have h2 := HKJ.out
              have h3 := HGY.out
              exact ⟨by omega, by omega⟩
            go_wp2_with fail
            go_quiet (fail)
            go_wp2_with fail
            refine ⟨⟨K, f', gy, cn, p1 + (N : Nat), p2, P ++ tok k1 36 ++ tok k2 98 ++ tok N 111, rfl, rfl, rfl, HCN, hKn, by have := HKJ.out; omega, by omega, HW2.out, HE2, hcnt, HP65, h81.trans (Joins.below_draws _ _ _), h82.out.below (Joins.below_draws _ _ _)⟩, ?_⟩
            have := HKJ.out
            simp [intOf]
            omega
        · obtain rfl : j = n := by omega
          have hdn : r.drop j = [] := by rw [HN.out, List.drop_length]
          have HPQ : Aside (pcs x0 j x0 y0 r = P) := by
            show _ = _
            have h := HE.out
            rwa [hdn, pcs_nil, List.append_nil] at h
          have tj1 : decide ((j : Int) < (j : Int)) = false := by simp
          have tj2 : decide (j < j) = false := by simp
          obtain ⟨H, hHe⟩ : ∃ H, H = headT wd hi' t := ⟨_, rfl⟩
          have HEND : Aside (bodyT r t = (layF (H, 0) (P ++ [[33]])).1 ++ [10]) := by
            show _ = _
            rw [bodyT, ← HWH.out.1, ← HWH.out.2, ← hHe, ← HBX.out]
            simp only
            rw [← HN.out, HPQ.out]
          have hl1 := dec_len (show wd < 18446744073709551616 by omega)
          have hl2 := dec_len (show hi' < 18446744073709551616 by omega)
          have hHl : H.length ≤ 200 := by rw [hHe]; simp [headT]; omega
          have hH : (⟨#[120, 32, 61, 32]⟩ : ByteArray) ++ txt (Lib.decDigits wd) ++ (⟨#[44, 32, 121, 32, 61, 32]⟩ : ByteArray) ++ txt (Lib.decDigits hi') ++ (⟨#[44, 32, 114, 117, 108, 101, 32, 61, 32]⟩ : ByteArray) ++ TX ++ (⟨#[10]⟩ : ByteArray) = txt H := by
            show txt [120, 32, 61, 32] ++ txt (Lib.decDigits wd) ++ txt [44, 32, 121, 32, 61, 32] ++ txt (Lib.decDigits hi') ++ txt [44, 32, 114, 117, 108, 101, 32, 61, 32] ++ TX ++ txt [10] = _
            rw [HTX.out, txt_add, txt_add, txt_add, txt_add, txt_add, txt_add, hHe]; rfl
          have HI1 := Lib.hid (fun W => decimal_any wd W (by omega))
          have HI2 := Lib.hid (fun W => decimal_any hi' W (by omega))
          obtain ⟨Y1, hY1⟩ : ∃ Y, Y = txt (Lib.decDigits wd) := ⟨_, rfl⟩
          obtain ⟨Y2, hY2⟩ : ∃ Y, Y = txt (Lib.decDigits hi') := ⟨_, rfl⟩
          have hY1s : Y1.size ≤ 64 := by rw [hY1, txt_size]; exact hl1
          have hY2s : Y2.size ≤ 64 := by rw [hY2, txt_size]; exact hl2
          rw [← hY1] at HI1 hH
          rw [← hY2] at HI2 hH
          obtain ⟨TH, hTH⟩ : ∃ TH, TH = txt H := ⟨_, rfl⟩
          have hTHs : TH.size ≤ 200 := by rw [hTH, txt_size]; exact hHl
          rw [← hTH] at hH
          have m1 : ((⟨#[120, 32, 61, 32]⟩ : ByteArray) ++ Y1).size ≤ 70 := by rw [ByteArray.size_append]; have : (⟨#[120, 32, 61, 32]⟩ : ByteArray).size = 4 := rfl; omega
          have m2 : ((⟨#[120, 32, 61, 32]⟩ : ByteArray) ++ Y1 ++ (⟨#[44, 32, 121, 32, 61, 32]⟩ : ByteArray)).size ≤ 80 := by rw [ByteArray.size_append]; have : (⟨#[44, 32, 121, 32, 61, 32]⟩ : ByteArray).size = 6 := rfl; omega
          have m3 : ((⟨#[120, 32, 61, 32]⟩ : ByteArray) ++ Y1 ++ (⟨#[44, 32, 121, 32, 61, 32]⟩ : ByteArray) ++ Y2).size ≤ 150 := by rw [ByteArray.size_append]; omega
          have m4 : ((⟨#[120, 32, 61, 32]⟩ : ByteArray) ++ Y1 ++ (⟨#[44, 32, 121, 32, 61, 32]⟩ : ByteArray) ++ Y2 ++ (⟨#[44, 32, 114, 117, 108, 101, 32, 61, 32]⟩ : ByteArray)).size ≤ 160 := by rw [ByteArray.size_append]; have : (⟨#[44, 32, 114, 117, 108, 101, 32, 61, 32]⟩ : ByteArray).size = 9 := rfl; omega
          have m5 : ((⟨#[120, 32, 61, 32]⟩ : ByteArray) ++ Y1 ++ (⟨#[44, 32, 121, 32, 61, 32]⟩ : ByteArray) ++ Y2 ++ (⟨#[44, 32, 114, 117, 108, 101, 32, 61, 32]⟩ : ByteArray) ++ TX).size ≤ 190 := by rw [ByteArray.size_append]; omega
          obtain ⟨q, hq⟩ : ∃ q, q = P.length := ⟨_, rfl⟩
          have hql : q ≤ 12288 := by omega
          have HQ := Lib.hid hq
          have HTH := Lib.hid hTH
          clear hHe hY1 hY2 hTH hdn HE HW hq hl1 hl2
          go_wp2_with fail
          refine (HI1.out _).mono ?_
          rintro e w5 ⟨rfl, hb5⟩
          go_wp2_with fail
          refine (HI2.out _).mono ?_
          rintro e w6 ⟨rfl, hb6⟩
          have hz5 := hb5.size
          have hz6 := hb6.size
          have hzr := hB.size
          have hrn := (HRN.out.below hb5).below hb6
          have HB6x := Lib.hid (hB.trans ((hb5.mono (show br ≤ wr.heap.size by omega)).trans (hb6.mono (show br ≤ w5.heap.size by omega))))
          obtain ⟨v, hvb, hvo⟩ := hrn
          obtain ⟨va, vc, rfl⟩ := hvo.form
          have HVO := Lib.hid hvo
          unfold TextsOf at hvo
          rw [← HQ.out] at hvb hvo
          have dv : w6.cell? ⟨br, 0, none⟩ = some (.slice va q vc) := Joins.cell_of_block hvb 0
          have hbr6 : br < w6.heap.size := lt_of_block hvb
          clear hvb
          go_wp2_with (at_builtin; refine wpList_append_lies _ rfl _ _ 80 rfl (br + 1) 9 i0 _ 1 16 Tryd.underlying80 hi hi0 hi1 hi2 rfl (by omega) (.slice va q vc) q (encS P) rfl (hvo.alloc _) ⟨w6.heap.size, 0, none⟩ 1 1 [.string ⟨#[33]⟩] rfl rfl (news_alloc _ _ _ rfl) (by intro u hu; rw [List.mem_singleton.1 hu]; rfl) (by omega) (by unfold maxLen; omega) (by omega) (by simp; omega) (w6.heap.size + 1) (by simp) ?_; intro g cap1 w7 hown1 hgrow1 hat1 hlt1)
          have HB7 := Lib.hid ((HB6x.out.alloc (by omega) (.cells #[.string ⟨#[33]⟩] 9)).grown hgrow1 (by simp; omega) (fun k hk => by have := (hvo.lt k hk).1; omega))
          have hcells : ∀ k p, (P ++ [[33]])[k]? = some p → w7.cell? ⟨g, k, none⟩ = some (.string (txt p)) := fun k p hp => by
            have e1 : encS P ++ [Value.string ⟨#[33]⟩] = encS (P ++ [[33]]) := by rw [encS_append]; rfl
            rw [e1] at hown1
            have h := hown1.cells rfl k (.string (txt p)) (by rw [encS, List.getElem?_map, hp]; rfl)
            rwa [Addr.add_lit, Nat.zero_add] at h
          have HCS := Lib.hid hcells
          have hQ65 : Aside (∀ p ∈ P ++ [[33]], p.length ≤ 65) := fun p hp => by
            rcases List.mem_append.1 hp with hp | hp
            · exact H65.out p hp
            · rw [List.mem_singleton.1 hp]; decide
          obtain ⟨Q, hQ⟩ : ∃ Q, Q = P ++ [[33]] := ⟨_, rfl⟩
          have hQl : Q.length = q + 1 := by rw [hQ, List.length_append, HQ.out]; rfl
          rw [← hQ] at HCS hQ65 HEND
          have HQL := Lib.hid hQl
          clear hcells hQ hQl dv hvo hown1
          go_loopw [20, 21, 23, 162] (fun ov lv _ kv ws => ∃ (k : Nat) (O L : List UInt8), ov = .string (txt O) ∧ lv = .string (txt L) ∧ kv = .int .i64 k ∧ k ≤ q + 1 ∧ Aside (LaySt H Q k O L) ∧ ws = w7) (fun _ _ _ kv _ => q + 1 - (intOf kv).toNat)
          case atStart => exact ⟨0, H, [], by rw [HTH.out], rfl, rfl, by omega, LaySt.start H Q, rfl⟩
          case round =>
            obtain ⟨k, O, L, rfl, rfl, rfl, hkq, HL, rfl⟩ := hrel
            have h1 := HL.out.low
            have h2 := HL.out.size
            obtain ⟨OX, hOX⟩ : ∃ OX, OX = txt O := ⟨_, rfl⟩
            obtain ⟨LX, hLX⟩ : ∃ LX, LX = txt L := ⟨_, rfl⟩
            have hOs : OX.size ≤ 1000000 := by rw [hOX, txt_size]; omega
            have hLs : LX.size = L.length := by rw [hLX, txt_size]
            have HOX := Lib.hid hOX
            have HLX := Lib.hid hLX
            rw [← hOX, ← hLX]
            clear hOX hLX
            by_cases hlt : k < q + 1
            · have dd1 : decide ((k : Int) < ((q + 1 : Nat) : Int)) = true := decide_eq_true (by omega)
              have dd2 : decide (k < q + 1) = true := decide_eq_true hlt
              have dd3 : decide ((k : Int) < (q : Int) + 1) = true := decide_eq_true (by omega)
              obtain ⟨p, hp⟩ : ∃ p, Q[k]? = some p := ⟨_, List.getElem?_eq_getElem (by rw [HQL.out]; exact hlt)⟩
              have hpl := hQ65.out p (List.mem_of_getElem? hp)
              have HST := Lib.hid (HL.out.step hp hpl)
              have cp0 := HCS.out k p hp
              obtain ⟨PX, hPX⟩ : ∃ PX, PX = txt p := ⟨_, rfl⟩
              have hPs : PX.size = p.length := by rw [hPX, txt_size]
              rw [← hPX] at cp0
              have HPX := Lib.hid hPX
              clear hp hPX
              by_cases hov : 70 < L.length + p.length
              · have s1 : (LX ++ (⟨#[10]⟩ : ByteArray)).size ≤ 71 := by rw [ByteArray.size_append]; have : (⟨#[10]⟩ : ByteArray).size = 1 := rfl; omega
                have s2 : (OX ++ (LX ++ (⟨#[10]⟩ : ByteArray))).size ≤ 2000000 := by rw [ByteArray.size_append]; omega
                have s3 : ((⟨#[]⟩ : ByteArray) ++ PX).size ≤ 100 := by rw [ByteArray.size_append]; have : (⟨#[]⟩ : ByteArray).size = 0 := rfl; omega
                have t1 : decide ((L.length : Int) + (p.length : Int) > 70) = true := decide_eq_true (by omega)
                have t2 : decide (70 < (L.length : Int) + (p.length : Int)) = true := decide_eq_true (by omega)
                have t3 : decide (70 < L.length + p.length) = true := decide_eq_true hov
                have hst := HST.out
                rw [if_pos hov] at hst
                have HS2 := Lib.hid hst
                clear hst
                go_wp2_with fail
                refine ⟨⟨k + 1, O ++ (L ++ [10]), [] ++ p, ?_, ?_, by go_num, by omega, HS2.out, by first | rfl | trivial⟩, ?_⟩
                · rw [HOX.out, HLX.out, ← txt_add, ← txt_add]; rfl
                · rw [HPX.out]; exact congrArg Value.string (txt_add [] p)
                · simp [intOf]; omega
              · have s3 : (LX ++ PX).size ≤ 200 := by rw [ByteArray.size_append]; omega
                have t1 : decide ((L.length : Int) + (p.length : Int) > 70) = false := decide_eq_false (by omega)
                have t2 : decide (70 < (L.length : Int) + (p.length : Int)) = false := decide_eq_false (by omega)
                have t3 : decide (70 < L.length + p.length) = false := decide_eq_false hov
                have hst := HST.out
                rw [if_neg hov] at hst
                have HS2 := Lib.hid hst
                clear hst
                go_wp2_with fail
                refine ⟨⟨k + 1, O, L ++ p, by rw [HOX.out], ?_, by go_num, by omega, HS2.out, by first | rfl | trivial⟩, ?_⟩
                · rw [HLX.out, HPX.out, txt_add]
                · simp [intOf]; omega
            · obtain rfl : k = q + 1 := by omega
              have hfin := HL.out.text
              rw [List.take_of_length_le (by rw [HQL.out]; exact Nat.le_refl _)] at hfin
              have HEND2 : Aside (bodyT r t = O ++ L ++ [10]) := by show _ = _; rw [HEND.out, hfin]
              have dd1 : decide (((q + 1 : Nat) : Int) < ((q + 1 : Nat) : Int)) = false := by simp
              have dd2 : decide (q + 1 < q + 1) = false := by simp
              have dd3 : decide ((q : Int) + 1 < (q : Int) + 1) = false := by simp
              have s1 : (OX ++ LX).size ≤ 1000100 := by rw [ByteArray.size_append]; omega
              have s2 : (OX ++ LX ++ (⟨#[10]⟩ : ByteArray)).size ≤ 1000200 := by rw [ByteArray.size_append]; have : (⟨#[10]⟩ : ByteArray).size = 1 := rfl; omega
              clear hfin
              go_wp2_with fail
              go_ret2
              refine ⟨?_, HWX.out.trans (HB7.out.mono hwb)⟩
              rw [HO.out, HEND2.out, ← txt_add, ← txt_add, ← HOX.out, ← HLX.out]
              rfl
    · have hg' : goodF rb rl = false := by simpa using hg
      have HO := Lib.hid (encF_bad HR.out hg')
      have HTxt := Lib.hid (refText_no rb rl w1 hg')
      clear hg hg'
      go_wp2_with fail
      refine HTxt.out.mono ?_
      rintro e w2 ⟨rfl, hb2⟩
      go_wp2_with fail
      go_ret2
      refine ⟨?_, HB1.out.trans (hb2.mono hz1)⟩
      rw [HO.out]; rfl
  · have he1 : (er == 0) = false := by simpa using he
    have he2 : (er != 0) = true := by simpa using he
    have HO := Lib.hid (encF_err (rb := rb) (rl := rl) HR.out he)
    clear he
    go_wp2_with fail
    go_ret2
    refine ⟨?_, HB1.out⟩
    rw [HO.out]; rfl
end Go.Proofs.YtdmamecfmfhlmaaDoor
