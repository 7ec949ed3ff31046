/-
  The program's reading of a line.
-/
import Derived.Test.YtdmamecfmfhlmaaGreatDoorZSpeechWritesRead7
namespace Go.Proofs.YtdmamecfmfhlmaaGreatDoor
set_option maxRecDepth 100000
open Go.RowKit

set_option maxHeartbeats 40000000 in
set_option maxRecDepth 100000 in
theorem read_short (C : List UInt8) (w : World) (hC : C.length ≤ 6000) :
    Calls Tryz.prog 9 #[.string (txt C)] w (ReadsTo w (askF C)) := by
  have HS := Lib.hid (fun W => split_any 32 C W (by omega))
  obtain ⟨S, hS⟩ : ∃ S, S = txt C := ⟨_, rfl⟩
  have hsz : S.size = C.length := by rw [hS, txt_size]
  have h32 : (txt [32]) = ({ data := #[32] } : ByteArray) := rfl
  obtain ⟨t0, r, hr⟩ := List.exists_cons_of_ne_nil (splC_ne 32 C)
  have hlen := splC_len 32 C
  have hcnt : C.count 32 ≤ C.length := List.count_le_length
  have hpc := splC_piece 32 C
  rw [hr] at HS hlen hpc
  have hft : Fits (t0 :: r) := fun t ht => Nat.le_trans (hpc t ht) hC
  have hn : (t0 :: r).length ≤ 10000 := by omega
  obtain ⟨n, hnn⟩ : ∃ n, n = (t0 :: r).length := ⟨_, rfl⟩
  rw [← hS, ← hnn, h32] at HS
  rw [← hS]
  have HR := Lib.hid hr
  have HC := Lib.hid hC
  have HN := Lib.hid hnn
  have HFR := Lib.hid (show Fits r from hft.tail)
  have HNL := Lib.hid hn
  clear hS h32 hr hlen hcnt hpc hft hn hnn
  go_enter Tryz.func9, Tryz.ntmps9
  go_wp2_with fail
  refine (HS.out _).mono ?_
  rintro e w1 ⟨rfl, rfl⟩
  go_upto_region 5 with fail
  refine wp_namedR ?_
  intro W0 hW0
  have G0 := Lib.hid (RSt.start w W0 (t0 :: r) (by simp) HNL.out (by rw [hW0, HN.out]; rfl))
  have hs0 := G0.out.below.size
  clear hW0
  have HW := Lib.hid (word_any _ _ _ W0 G0.out.rd)
  rw [List.isEmpty_cons, Bool.or_false, List.headD_cons, List.tail_cons] at HW
  obtain ⟨T, hT⟩ : ∃ T, T = txt t0 := ⟨_, rfl⟩
  rw [← hT] at HW
  have HTT := Lib.hid hT
  clear hT
  go_wp2_with fail
  refine HW.out.mono ?_
  rintro e w1 ⟨rfl, r1, k1⟩
  have G1 := Lib.hid (G0.out.next r1 k1)
  have hs1 := k1.size
  obtain ⟨⟨a0, a1, a2, a3, a4, a5, a6⟩, af⟩ := seven G1.out.q
  have f0 := af 0; have f1 := af 1; have f2 := af 2; have f3 := af 3; have f4 := af 4; have f5 := af 5; have f6 := af 6
  obtain ⟨⟨z0, z1, z2, z3, z4, z5, z6⟩, ag⟩ := seven (show w1.heap[w.heap.size]? = some (.cells #[_, _, _, _, _, _, _] _ _) from G1.out.res)
  have g0 := ag 0; have g1 := ag 1; have g2 := ag 2; have g3 := ag 3; have g4 := ag 4; have g5 := ag 5; have g6 := ag 6
  clear r1 k1 af ag
  go_upto_region 27 with fail
  · have hv : t0 = verbT 1 := verb_of HTT.out (by assumption : (T.toList == [110, 101, 119]) = true)
    have HV := Lib.hid (show verbOf t0 = 1 by rw [hv]; rfl)
    clear hv
    have H2 := Lib.hid (readName_any _ _ _ w1 G1.out.rd HFR.out)
    obtain ⟨S2, hS2⟩ : ∃ x, x = txt (r.headD []) := ⟨_, rfl⟩
    rw [← hS2] at H2
    have HS2 := Lib.hid hS2
    clear hS2
    with_reducible refine H2.out.mono ?_
    rintro e w2 ⟨rfl, r2, k2⟩
    have G2 := Lib.hid (G1.out.next r2 k2)
    have hs2 := k2.size
    clear r2 k2
    go_wp2_with fail
    have HFR2 := Lib.hid HFR.out.tail
    have H3 := Lib.hid (readRule_any _ _ _ w2 G2.out.rd HFR2.out)
    obtain ⟨⟨⟨bo, li⟩, er⟩, hX3⟩ : ∃ x, x = readF (r.tail.headD []) := ⟨_, rfl⟩
    rw [← hX3] at H3
    have HX3 := Lib.hid hX3
    clear hX3
    dsimp only at H3
    with_reducible refine H3.out.mono ?_
    rintro e w3 ⟨rfl, r3, k3⟩
    have G3 := Lib.hid (G2.out.next r3 k3)
    have hs3 := k3.size
    clear r3 k3
    clear a0 a1 a2 a3 a4 a5 a6 f0 f1 f2 f3 f4 f5 f6 z0 z1 z2 z3 z4 z5 z6 g0 g1 g2 g3 g4 g5 g6
    obtain ⟨⟨a0, a1, a2, a3, a4, a5, a6⟩, af⟩ := seven G3.out.q
    have f0 := af 0; have f1 := af 1; have f2 := af 2; have f3 := af 3; have f4 := af 4; have f5 := af 5; have f6 := af 6
    clear af
    go_upto_region 27 with fail
    refine wp_namedR ?_
    intro W9 hW9
    replace hW9 : W9 = set7 w3 (w.heap.size + 3) (.int .i64 1) (.string S2) (.string ⟨#[]⟩) (.int .i64 bo) (.int .i64 li) (.int .i64 0) (.slice none 0 0) := hW9
    have Q9 := Lib.hid (G3.out.wrote (.int .i64 1) (.string S2) (.string ⟨#[]⟩) (.int .i64 bo) (.int .i64 li) (.int .i64 0) (.slice none 0 0) hW9)
    clear hW9 a0 a1 a2 a3 a4 a5 a6 f0 f1 f2 f3 f4 f5 f6
    have HA := Lib.hid (ask_new r)
    rw [← HX3.out] at HA
    obtain ⟨lf, hlf⟩ : ∃ x, x = r.tail.tail := ⟨_, rfl⟩
    obtain ⟨bd, hbd⟩ : ∃ x, x = ((false || r.isEmpty || !namedF (r.headD [])) || r.tail.isEmpty || decide (er ≠ 0)) := ⟨_, rfl⟩
    rw [← hlf, ← hbd] at Q9 HA
    clear hlf hbd
    obtain ⟨nl, hnl⟩ : ∃ x, x = lf.length := ⟨_, rfl⟩
    obtain ⟨la, lc, l0, l1⟩ := Q9.out.left
    rw [← hnl] at l0
    have HNLF := Lib.hid hnl
    have HAF := Lib.hid (ask_of HC.out HR.out HV.out)
    obtain ⟨⟨a0, a1, a2, a3, a4, a5, a6⟩, af⟩ := seven (show W9.heap[w.heap.size]? = some (.cells #[_, _, _, _, _, _, _] _ _) from Q9.out.res)
    have f0 := af 0; have f1 := af 1; have f2 := af 2; have f3 := af 3; have f4 := af 4; have f5 := af 5; have f6 := af 6
    obtain ⟨⟨b0, b1, b2, b3, b4, b5, b6⟩, -⟩ := seven Q9.out.q
    clear hnl af
    by_cases hbd : bd = true
    · subst hbd
      go_wp2_with fail
      obtain ⟨p0, p1, p2, p3, p4, p5, p6⟩ := Q9.out.told (.int .i64 0) (.string ⟨#[]⟩) (.string ⟨#[]⟩) (.int .i64 0) (.int .i64 0) (.int .i64 0) (.slice none 0 0)
      simp only [set7] at p0 p1 p2 p3 p4 p5 p6
      have hx : askF C = (2, Ask.no) := by rw [HAF.out]; exact askW_none (by rw [HA.out]; exact endA_no (.inl rfl)) (by omega)
      exact bodyPost_ret (v := .tuple #[.agg #[.int .i64 0, .string ⟨#[]⟩, .string ⟨#[]⟩, .int .i64 0, .int .i64 0, .int .i64 0, .slice none 0 0], .int .i64 2]) (by simp [results, Tryz.results9, go_sem, p0, p1, p2, p3, p4, p5, p6]) rfl (reads_err Q9.out hx)
    · obtain rfl : bd = false := by simpa using hbd
      by_cases hl : nl = 0
      · subst hl
        obtain rfl : lf = [] := List.length_eq_zero_iff.1 HNLF.out.symm
        go_wp2_with fail
        obtain ⟨p0, p1, p2, p3, p4, p5, p6⟩ := Q9.out.told (.int .i64 1) (.string S2) (.string ⟨#[]⟩) (.int .i64 bo) (.int .i64 li) (.int .i64 0) (.slice none 0 0)
        simp only [set7] at p0 p1 p2 p3 p4 p5 p6
        have hx : askF C = (0, ⟨1, (r.headD []), [], bo, li, 0, []⟩) := by rw [HAF.out]; exact askW_some (by rw [HA.out]; exact endA_yes _) (by omega)
        exact bodyPost_ret (v := .tuple #[.agg #[.int .i64 1, .string S2, .string ⟨#[]⟩, .int .i64 bo, .int .i64 li, .int .i64 0, .slice none 0 0], .int .i64 0]) (by simp [results, Tryz.results9, go_sem, p0, p1, p2, p3, p4, p5, p6]) rfl (reads_ok (cv := .slice none 0 0) Q9.out hx (by rw [HS2.out]; rfl) (CellsAt.nil _ _))
      · have hl2 : 0 < nl := by omega
        have hl3 : decide ((nl : Int) > 0) = true := decide_eq_true (by omega)
        have hl4 : decide (0 < nl) = true := decide_eq_true (by omega)
        go_wp2_with fail
        obtain ⟨p0, p1, p2, p3, p4, p5, p6⟩ := Q9.out.told (.int .i64 0) (.string ⟨#[]⟩) (.string ⟨#[]⟩) (.int .i64 0) (.int .i64 0) (.int .i64 0) (.slice none 0 0)
        simp only [set7] at p0 p1 p2 p3 p4 p5 p6
        have hx : askF C = (2, Ask.no) := by rw [HAF.out]; exact askW_none (by rw [HA.out]; exact endA_no (.inr (fun e => hl (by rw [HNLF.out, e]; rfl)))) (by omega)
        exact bodyPost_ret (v := .tuple #[.agg #[.int .i64 0, .string ⟨#[]⟩, .string ⟨#[]⟩, .int .i64 0, .int .i64 0, .int .i64 0, .slice none 0 0], .int .i64 2]) (by simp [results, Tryz.results9, go_sem, p0, p1, p2, p3, p4, p5, p6]) rfl (reads_err Q9.out hx)
  · have hv : t0 = verbT 2 := verb_of HTT.out (by assumption : (T.toList == [115, 101, 116]) = true)
    have HV := Lib.hid (show verbOf t0 = 2 by rw [hv]; rfl)
    clear hv
    have H2 := Lib.hid (readPlace_any _ _ _ w1 G1.out.rd HFR.out)
    obtain ⟨S2, hS2⟩ : ∃ x, x = txt (r.headD []) := ⟨_, rfl⟩
    rw [← hS2] at H2
    have HS2 := Lib.hid hS2
    clear hS2
    with_reducible refine H2.out.mono ?_
    rintro e w2 ⟨rfl, r2, k2⟩
    have G2 := Lib.hid (G1.out.next r2 k2)
    have hs2 := k2.size
    clear r2 k2
    go_wp2_with fail
    have HFR2 := Lib.hid HFR.out.tail
    have H3 := Lib.hid (readCells_any _ _ _ w2 G2.out.rd HFR2.out (by have := HNL.out; rw [List.length_cons] at this; rw [List.length_tail]; omega))
    with_reducible refine H3.out.mono ?_
    rintro e w3 ⟨cv, ts2, bad2, zs, rfl, r3, hcv, hrc, k3⟩
    obtain ⟨va, vc, rfl, -⟩ := hcv.1.form
    obtain ⟨nz, hnz⟩ : ∃ z, z = zs.length := ⟨_, rfl⟩
    rw [← hnz] at hcv ⊢
    have HNZ := Lib.hid hnz
    have HCV := Lib.hid hcv
    have HRC := Lib.hid hrc
    clear hcv hrc hnz
    have G3 := Lib.hid (G2.out.next r3 k3)
    have hs3 := k3.size
    clear r3 k3
    clear a0 a1 a2 a3 a4 a5 a6 f0 f1 f2 f3 f4 f5 f6 z0 z1 z2 z3 z4 z5 z6 g0 g1 g2 g3 g4 g5 g6
    obtain ⟨⟨a0, a1, a2, a3, a4, a5, a6⟩, af⟩ := seven G3.out.q
    have f0 := af 0; have f1 := af 1; have f2 := af 2; have f3 := af 3; have f4 := af 4; have f5 := af 5; have f6 := af 6
    clear af
    go_upto_region 27 with fail
    refine wp_namedR ?_
    intro W9 hW9
    replace hW9 : W9 = set7 w3 (w.heap.size + 3) (.int .i64 2) (.string S2) (.string ⟨#[]⟩) (.int .i64 0) (.int .i64 0) (.int .i64 0) (.slice va nz vc) := hW9
    have Q9 := Lib.hid (G3.out.wrote (.int .i64 2) (.string S2) (.string ⟨#[]⟩) (.int .i64 0) (.int .i64 0) (.int .i64 0) (.slice va nz vc) hW9)
    have HCV9 := Lib.hid (G3.out.cellsW (HCV.out) (by have := G2.out.below.size; omega) hW9)
    clear hW9 a0 a1 a2 a3 a4 a5 a6 f0 f1 f2 f3 f4 f5 f6
    have HA := Lib.hid (ask_set HRC.out)
    obtain ⟨lf, hlf⟩ : ∃ x, x = ts2 := ⟨_, rfl⟩
    obtain ⟨bd, hbd⟩ : ∃ x, x = bad2 := ⟨_, rfl⟩
    rw [← hlf, ← hbd] at Q9 HA
    clear hlf hbd
    obtain ⟨nl, hnl⟩ : ∃ x, x = lf.length := ⟨_, rfl⟩
    obtain ⟨la, lc, l0, l1⟩ := Q9.out.left
    rw [← hnl] at l0
    have HNLF := Lib.hid hnl
    have HAF := Lib.hid (ask_of HC.out HR.out HV.out)
    obtain ⟨⟨a0, a1, a2, a3, a4, a5, a6⟩, af⟩ := seven (show W9.heap[w.heap.size]? = some (.cells #[_, _, _, _, _, _, _] _ _) from Q9.out.res)
    have f0 := af 0; have f1 := af 1; have f2 := af 2; have f3 := af 3; have f4 := af 4; have f5 := af 5; have f6 := af 6
    obtain ⟨⟨b0, b1, b2, b3, b4, b5, b6⟩, -⟩ := seven Q9.out.q
    clear hnl af
    by_cases hbd : bd = true
    · subst hbd
      go_wp2_with fail
      obtain ⟨p0, p1, p2, p3, p4, p5, p6⟩ := Q9.out.told (.int .i64 0) (.string ⟨#[]⟩) (.string ⟨#[]⟩) (.int .i64 0) (.int .i64 0) (.int .i64 0) (.slice none 0 0)
      simp only [set7] at p0 p1 p2 p3 p4 p5 p6
      have hx : askF C = (2, Ask.no) := by rw [HAF.out]; exact askW_none (by rw [HA.out]; exact endA_no (.inl rfl)) (by omega)
      exact bodyPost_ret (v := .tuple #[.agg #[.int .i64 0, .string ⟨#[]⟩, .string ⟨#[]⟩, .int .i64 0, .int .i64 0, .int .i64 0, .slice none 0 0], .int .i64 2]) (by simp [results, Tryz.results9, go_sem, p0, p1, p2, p3, p4, p5, p6]) rfl (reads_err Q9.out hx)
    · obtain rfl : bd = false := by simpa using hbd
      by_cases hl : nl = 0
      · subst hl
        obtain rfl : lf = [] := List.length_eq_zero_iff.1 HNLF.out.symm
        go_wp2_with fail
        obtain ⟨p0, p1, p2, p3, p4, p5, p6⟩ := Q9.out.told (.int .i64 2) (.string S2) (.string ⟨#[]⟩) (.int .i64 0) (.int .i64 0) (.int .i64 0) (.slice va nz vc)
        simp only [set7] at p0 p1 p2 p3 p4 p5 p6
        have hx : askF C = (0, ⟨2, (r.headD []), [], 0, 0, 0, zs⟩) := by rw [HAF.out]; exact askW_some (by rw [HA.out]; exact endA_yes _) (by omega)
        exact bodyPost_ret (v := .tuple #[.agg #[.int .i64 2, .string S2, .string ⟨#[]⟩, .int .i64 0, .int .i64 0, .int .i64 0, .slice va nz vc], .int .i64 0]) (by simp [results, Tryz.results9, go_sem, p0, p1, p2, p3, p4, p5, p6]) rfl (reads_ok (cv := .slice va nz vc) Q9.out hx (by rw [HS2.out]; rfl) (HCV9.out))
      · have hl2 : 0 < nl := by omega
        have hl3 : decide ((nl : Int) > 0) = true := decide_eq_true (by omega)
        have hl4 : decide (0 < nl) = true := decide_eq_true (by omega)
        go_wp2_with fail
        obtain ⟨p0, p1, p2, p3, p4, p5, p6⟩ := Q9.out.told (.int .i64 0) (.string ⟨#[]⟩) (.string ⟨#[]⟩) (.int .i64 0) (.int .i64 0) (.int .i64 0) (.slice none 0 0)
        simp only [set7] at p0 p1 p2 p3 p4 p5 p6
        have hx : askF C = (2, Ask.no) := by rw [HAF.out]; exact askW_none (by rw [HA.out]; exact endA_no (.inr (fun e => hl (by rw [HNLF.out, e]; rfl)))) (by omega)
        exact bodyPost_ret (v := .tuple #[.agg #[.int .i64 0, .string ⟨#[]⟩, .string ⟨#[]⟩, .int .i64 0, .int .i64 0, .int .i64 0, .slice none 0 0], .int .i64 2]) (by simp [results, Tryz.results9, go_sem, p0, p1, p2, p3, p4, p5, p6]) rfl (reads_err Q9.out hx)
  · have hv : t0 = verbT 3 := verb_of HTT.out (by assumption : (T.toList == [103, 101, 116]) = true)
    have HV := Lib.hid (show verbOf t0 = 3 by rw [hv]; rfl)
    clear hv
    have H2 := Lib.hid (readPlace_any _ _ _ w1 G1.out.rd HFR.out)
    obtain ⟨S2, hS2⟩ : ∃ x, x = txt (r.headD []) := ⟨_, rfl⟩
    rw [← hS2] at H2
    have HS2 := Lib.hid hS2
    clear hS2
    with_reducible refine H2.out.mono ?_
    rintro e w2 ⟨rfl, r2, k2⟩
    have G2 := Lib.hid (G1.out.next r2 k2)
    have hs2 := k2.size
    clear r2 k2
    clear a0 a1 a2 a3 a4 a5 a6 f0 f1 f2 f3 f4 f5 f6 z0 z1 z2 z3 z4 z5 z6 g0 g1 g2 g3 g4 g5 g6
    obtain ⟨⟨a0, a1, a2, a3, a4, a5, a6⟩, af⟩ := seven G2.out.q
    have f0 := af 0; have f1 := af 1; have f2 := af 2; have f3 := af 3; have f4 := af 4; have f5 := af 5; have f6 := af 6
    clear af
    go_upto_region 27 with fail
    refine wp_namedR ?_
    intro W9 hW9
    replace hW9 : W9 = set7 w2 (w.heap.size + 3) (.int .i64 3) (.string S2) (.string ⟨#[]⟩) (.int .i64 0) (.int .i64 0) (.int .i64 0) (.slice none 0 0) := hW9
    have Q9 := Lib.hid (G2.out.wrote (.int .i64 3) (.string S2) (.string ⟨#[]⟩) (.int .i64 0) (.int .i64 0) (.int .i64 0) (.slice none 0 0) hW9)
    clear hW9 a0 a1 a2 a3 a4 a5 a6 f0 f1 f2 f3 f4 f5 f6
    have HA := Lib.hid (ask_p 3 (by omega) r)
    obtain ⟨lf, hlf⟩ : ∃ x, x = r.tail := ⟨_, rfl⟩
    obtain ⟨bd, hbd⟩ : ∃ x, x = (false || r.isEmpty || (!namedF (r.headD []) && !keyedF (r.headD []))) := ⟨_, rfl⟩
    rw [← hlf, ← hbd] at Q9 HA
    clear hlf hbd
    obtain ⟨nl, hnl⟩ : ∃ x, x = lf.length := ⟨_, rfl⟩
    obtain ⟨la, lc, l0, l1⟩ := Q9.out.left
    rw [← hnl] at l0
    have HNLF := Lib.hid hnl
    have HAF := Lib.hid (ask_of HC.out HR.out HV.out)
    obtain ⟨⟨a0, a1, a2, a3, a4, a5, a6⟩, af⟩ := seven (show W9.heap[w.heap.size]? = some (.cells #[_, _, _, _, _, _, _] _ _) from Q9.out.res)
    have f0 := af 0; have f1 := af 1; have f2 := af 2; have f3 := af 3; have f4 := af 4; have f5 := af 5; have f6 := af 6
    obtain ⟨⟨b0, b1, b2, b3, b4, b5, b6⟩, -⟩ := seven Q9.out.q
    clear hnl af
    by_cases hbd : bd = true
    · subst hbd
      go_wp2_with fail
      obtain ⟨p0, p1, p2, p3, p4, p5, p6⟩ := Q9.out.told (.int .i64 0) (.string ⟨#[]⟩) (.string ⟨#[]⟩) (.int .i64 0) (.int .i64 0) (.int .i64 0) (.slice none 0 0)
      simp only [set7] at p0 p1 p2 p3 p4 p5 p6
      have hx : askF C = (2, Ask.no) := by rw [HAF.out]; exact askW_none (by rw [HA.out]; exact endA_no (.inl rfl)) (by omega)
      exact bodyPost_ret (v := .tuple #[.agg #[.int .i64 0, .string ⟨#[]⟩, .string ⟨#[]⟩, .int .i64 0, .int .i64 0, .int .i64 0, .slice none 0 0], .int .i64 2]) (by simp [results, Tryz.results9, go_sem, p0, p1, p2, p3, p4, p5, p6]) rfl (reads_err Q9.out hx)
    · obtain rfl : bd = false := by simpa using hbd
      by_cases hl : nl = 0
      · subst hl
        obtain rfl : lf = [] := List.length_eq_zero_iff.1 HNLF.out.symm
        go_wp2_with fail
        obtain ⟨p0, p1, p2, p3, p4, p5, p6⟩ := Q9.out.told (.int .i64 3) (.string S2) (.string ⟨#[]⟩) (.int .i64 0) (.int .i64 0) (.int .i64 0) (.slice none 0 0)
        simp only [set7] at p0 p1 p2 p3 p4 p5 p6
        have hx : askF C = (0, ⟨3, (r.headD []), [], 0, 0, 0, []⟩) := by rw [HAF.out]; exact askW_some (by rw [HA.out]; exact endA_yes _) (by omega)
        exact bodyPost_ret (v := .tuple #[.agg #[.int .i64 3, .string S2, .string ⟨#[]⟩, .int .i64 0, .int .i64 0, .int .i64 0, .slice none 0 0], .int .i64 0]) (by simp [results, Tryz.results9, go_sem, p0, p1, p2, p3, p4, p5, p6]) rfl (reads_ok (cv := .slice none 0 0) Q9.out hx (by rw [HS2.out]; rfl) (CellsAt.nil _ _))
      · have hl2 : 0 < nl := by omega
        have hl3 : decide ((nl : Int) > 0) = true := decide_eq_true (by omega)
        have hl4 : decide (0 < nl) = true := decide_eq_true (by omega)
        go_wp2_with fail
        obtain ⟨p0, p1, p2, p3, p4, p5, p6⟩ := Q9.out.told (.int .i64 0) (.string ⟨#[]⟩) (.string ⟨#[]⟩) (.int .i64 0) (.int .i64 0) (.int .i64 0) (.slice none 0 0)
        simp only [set7] at p0 p1 p2 p3 p4 p5 p6
        have hx : askF C = (2, Ask.no) := by rw [HAF.out]; exact askW_none (by rw [HA.out]; exact endA_no (.inr (fun e => hl (by rw [HNLF.out, e]; rfl)))) (by omega)
        exact bodyPost_ret (v := .tuple #[.agg #[.int .i64 0, .string ⟨#[]⟩, .string ⟨#[]⟩, .int .i64 0, .int .i64 0, .int .i64 0, .slice none 0 0], .int .i64 2]) (by simp [results, Tryz.results9, go_sem, p0, p1, p2, p3, p4, p5, p6]) rfl (reads_err Q9.out hx)
  · have hv : t0 = verbT 4 := verb_of HTT.out (by assumption : (T.toList == [115, 116, 101, 112]) = true)
    have HV := Lib.hid (show verbOf t0 = 4 by rw [hv]; rfl)
    clear hv
    have H2 := Lib.hid (readPlace_any _ _ _ w1 G1.out.rd HFR.out)
    obtain ⟨S2, hS2⟩ : ∃ x, x = txt (r.headD []) := ⟨_, rfl⟩
    rw [← hS2] at H2
    have HS2 := Lib.hid hS2
    clear hS2
    with_reducible refine H2.out.mono ?_
    rintro e w2 ⟨rfl, r2, k2⟩
    have G2 := Lib.hid (G1.out.next r2 k2)
    have hs2 := k2.size
    clear r2 k2
    go_wp2_with fail
    have HFR2 := Lib.hid HFR.out.tail
    have H3 := Lib.hid (readNum_any _ _ _ w2 G2.out.rd HFR2.out)
    obtain ⟨X3, hX3⟩ : ∃ x, x = (if okS (r.tail.headD []) = true then valS (r.tail.headD []) else 0) := ⟨_, rfl⟩
    rw [← hX3] at H3
    have HX3 := Lib.hid hX3
    clear hX3
    with_reducible refine H3.out.mono ?_
    rintro e w3 ⟨rfl, r3, k3⟩
    have G3 := Lib.hid (G2.out.next r3 k3)
    have hs3 := k3.size
    clear r3 k3
    clear a0 a1 a2 a3 a4 a5 a6 f0 f1 f2 f3 f4 f5 f6 z0 z1 z2 z3 z4 z5 z6 g0 g1 g2 g3 g4 g5 g6
    obtain ⟨⟨a0, a1, a2, a3, a4, a5, a6⟩, af⟩ := seven G3.out.q
    have f0 := af 0; have f1 := af 1; have f2 := af 2; have f3 := af 3; have f4 := af 4; have f5 := af 5; have f6 := af 6
    clear af
    go_upto_region 27 with fail
    refine wp_namedR ?_
    intro W9 hW9
    replace hW9 : W9 = set7 w3 (w.heap.size + 3) (.int .i64 4) (.string S2) (.string ⟨#[]⟩) (.int .i64 0) (.int .i64 0) (.int .i64 X3) (.slice none 0 0) := hW9
    have Q9 := Lib.hid (G3.out.wrote (.int .i64 4) (.string S2) (.string ⟨#[]⟩) (.int .i64 0) (.int .i64 0) (.int .i64 X3) (.slice none 0 0) hW9)
    clear hW9 a0 a1 a2 a3 a4 a5 a6 f0 f1 f2 f3 f4 f5 f6
    have HA := Lib.hid (ask_pd r)
    rw [← HX3.out] at HA
    obtain ⟨lf, hlf⟩ : ∃ x, x = r.tail.tail := ⟨_, rfl⟩
    obtain ⟨bd, hbd⟩ : ∃ x, x = ((false || r.isEmpty || (!namedF (r.headD []) && !keyedF (r.headD []))) || r.tail.isEmpty || !okS (r.tail.headD [])) := ⟨_, rfl⟩
    rw [← hlf, ← hbd] at Q9 HA
    clear hlf hbd
    obtain ⟨nl, hnl⟩ : ∃ x, x = lf.length := ⟨_, rfl⟩
    obtain ⟨la, lc, l0, l1⟩ := Q9.out.left
    rw [← hnl] at l0
    have HNLF := Lib.hid hnl
    have HAF := Lib.hid (ask_of HC.out HR.out HV.out)
    obtain ⟨⟨a0, a1, a2, a3, a4, a5, a6⟩, af⟩ := seven (show W9.heap[w.heap.size]? = some (.cells #[_, _, _, _, _, _, _] _ _) from Q9.out.res)
    have f0 := af 0; have f1 := af 1; have f2 := af 2; have f3 := af 3; have f4 := af 4; have f5 := af 5; have f6 := af 6
    obtain ⟨⟨b0, b1, b2, b3, b4, b5, b6⟩, -⟩ := seven Q9.out.q
    clear hnl af
    by_cases hbd : bd = true
    · subst hbd
      go_wp2_with fail
      obtain ⟨p0, p1, p2, p3, p4, p5, p6⟩ := Q9.out.told (.int .i64 0) (.string ⟨#[]⟩) (.string ⟨#[]⟩) (.int .i64 0) (.int .i64 0) (.int .i64 0) (.slice none 0 0)
      simp only [set7] at p0 p1 p2 p3 p4 p5 p6
      have hx : askF C = (2, Ask.no) := by rw [HAF.out]; exact askW_none (by rw [HA.out]; exact endA_no (.inl rfl)) (by omega)
      exact bodyPost_ret (v := .tuple #[.agg #[.int .i64 0, .string ⟨#[]⟩, .string ⟨#[]⟩, .int .i64 0, .int .i64 0, .int .i64 0, .slice none 0 0], .int .i64 2]) (by simp [results, Tryz.results9, go_sem, p0, p1, p2, p3, p4, p5, p6]) rfl (reads_err Q9.out hx)
    · obtain rfl : bd = false := by simpa using hbd
      by_cases hl : nl = 0
      · subst hl
        obtain rfl : lf = [] := List.length_eq_zero_iff.1 HNLF.out.symm
        go_wp2_with fail
        obtain ⟨p0, p1, p2, p3, p4, p5, p6⟩ := Q9.out.told (.int .i64 4) (.string S2) (.string ⟨#[]⟩) (.int .i64 0) (.int .i64 0) (.int .i64 X3) (.slice none 0 0)
        simp only [set7] at p0 p1 p2 p3 p4 p5 p6
        have hx : askF C = (0, ⟨4, (r.headD []), [], 0, 0, X3, []⟩) := by rw [HAF.out]; exact askW_some (by rw [HA.out]; exact endA_yes _) (by omega)
        exact bodyPost_ret (v := .tuple #[.agg #[.int .i64 4, .string S2, .string ⟨#[]⟩, .int .i64 0, .int .i64 0, .int .i64 X3, .slice none 0 0], .int .i64 0]) (by simp [results, Tryz.results9, go_sem, p0, p1, p2, p3, p4, p5, p6]) rfl (reads_ok (cv := .slice none 0 0) Q9.out hx (by rw [HS2.out]; rfl) (CellsAt.nil _ _))
      · have hl2 : 0 < nl := by omega
        have hl3 : decide ((nl : Int) > 0) = true := decide_eq_true (by omega)
        have hl4 : decide (0 < nl) = true := decide_eq_true (by omega)
        go_wp2_with fail
        obtain ⟨p0, p1, p2, p3, p4, p5, p6⟩ := Q9.out.told (.int .i64 0) (.string ⟨#[]⟩) (.string ⟨#[]⟩) (.int .i64 0) (.int .i64 0) (.int .i64 0) (.slice none 0 0)
        simp only [set7] at p0 p1 p2 p3 p4 p5 p6
        have hx : askF C = (2, Ask.no) := by rw [HAF.out]; exact askW_none (by rw [HA.out]; exact endA_no (.inr (fun e => hl (by rw [HNLF.out, e]; rfl)))) (by omega)
        exact bodyPost_ret (v := .tuple #[.agg #[.int .i64 0, .string ⟨#[]⟩, .string ⟨#[]⟩, .int .i64 0, .int .i64 0, .int .i64 0, .slice none 0 0], .int .i64 2]) (by simp [results, Tryz.results9, go_sem, p0, p1, p2, p3, p4, p5, p6]) rfl (reads_err Q9.out hx)
  · have hv : t0 = verbT 5 := verb_of HTT.out (by assumption : (T.toList == [99, 111, 117, 110, 116]) = true)
    have HV := Lib.hid (show verbOf t0 = 5 by rw [hv]; rfl)
    clear hv
    have H2 := Lib.hid (readPlace_any _ _ _ w1 G1.out.rd HFR.out)
    obtain ⟨S2, hS2⟩ : ∃ x, x = txt (r.headD []) := ⟨_, rfl⟩
    rw [← hS2] at H2
    have HS2 := Lib.hid hS2
    clear hS2
    with_reducible refine H2.out.mono ?_
    rintro e w2 ⟨rfl, r2, k2⟩
    have G2 := Lib.hid (G1.out.next r2 k2)
    have hs2 := k2.size
    clear r2 k2
    clear a0 a1 a2 a3 a4 a5 a6 f0 f1 f2 f3 f4 f5 f6 z0 z1 z2 z3 z4 z5 z6 g0 g1 g2 g3 g4 g5 g6
    obtain ⟨⟨a0, a1, a2, a3, a4, a5, a6⟩, af⟩ := seven G2.out.q
    have f0 := af 0; have f1 := af 1; have f2 := af 2; have f3 := af 3; have f4 := af 4; have f5 := af 5; have f6 := af 6
    clear af
    go_upto_region 27 with fail
    refine wp_namedR ?_
    intro W9 hW9
    replace hW9 : W9 = set7 w2 (w.heap.size + 3) (.int .i64 5) (.string S2) (.string ⟨#[]⟩) (.int .i64 0) (.int .i64 0) (.int .i64 0) (.slice none 0 0) := hW9
    have Q9 := Lib.hid (G2.out.wrote (.int .i64 5) (.string S2) (.string ⟨#[]⟩) (.int .i64 0) (.int .i64 0) (.int .i64 0) (.slice none 0 0) hW9)
    clear hW9 a0 a1 a2 a3 a4 a5 a6 f0 f1 f2 f3 f4 f5 f6
    have HA := Lib.hid (ask_p 5 (by omega) r)
    obtain ⟨lf, hlf⟩ : ∃ x, x = r.tail := ⟨_, rfl⟩
    obtain ⟨bd, hbd⟩ : ∃ x, x = (false || r.isEmpty || (!namedF (r.headD []) && !keyedF (r.headD []))) := ⟨_, rfl⟩
    rw [← hlf, ← hbd] at Q9 HA
    clear hlf hbd
    obtain ⟨nl, hnl⟩ : ∃ x, x = lf.length := ⟨_, rfl⟩
    obtain ⟨la, lc, l0, l1⟩ := Q9.out.left
    rw [← hnl] at l0
    have HNLF := Lib.hid hnl
    have HAF := Lib.hid (ask_of HC.out HR.out HV.out)
    obtain ⟨⟨a0, a1, a2, a3, a4, a5, a6⟩, af⟩ := seven (show W9.heap[w.heap.size]? = some (.cells #[_, _, _, _, _, _, _] _ _) from Q9.out.res)
    have f0 := af 0; have f1 := af 1; have f2 := af 2; have f3 := af 3; have f4 := af 4; have f5 := af 5; have f6 := af 6
    obtain ⟨⟨b0, b1, b2, b3, b4, b5, b6⟩, -⟩ := seven Q9.out.q
    clear hnl af
    by_cases hbd : bd = true
    · subst hbd
      go_wp2_with fail
      obtain ⟨p0, p1, p2, p3, p4, p5, p6⟩ := Q9.out.told (.int .i64 0) (.string ⟨#[]⟩) (.string ⟨#[]⟩) (.int .i64 0) (.int .i64 0) (.int .i64 0) (.slice none 0 0)
      simp only [set7] at p0 p1 p2 p3 p4 p5 p6
      have hx : askF C = (2, Ask.no) := by rw [HAF.out]; exact askW_none (by rw [HA.out]; exact endA_no (.inl rfl)) (by omega)
      exact bodyPost_ret (v := .tuple #[.agg #[.int .i64 0, .string ⟨#[]⟩, .string ⟨#[]⟩, .int .i64 0, .int .i64 0, .int .i64 0, .slice none 0 0], .int .i64 2]) (by simp [results, Tryz.results9, go_sem, p0, p1, p2, p3, p4, p5, p6]) rfl (reads_err Q9.out hx)
    · obtain rfl : bd = false := by simpa using hbd
      by_cases hl : nl = 0
      · subst hl
        obtain rfl : lf = [] := List.length_eq_zero_iff.1 HNLF.out.symm
        go_wp2_with fail
        obtain ⟨p0, p1, p2, p3, p4, p5, p6⟩ := Q9.out.told (.int .i64 5) (.string S2) (.string ⟨#[]⟩) (.int .i64 0) (.int .i64 0) (.int .i64 0) (.slice none 0 0)
        simp only [set7] at p0 p1 p2 p3 p4 p5 p6
        have hx : askF C = (0, ⟨5, (r.headD []), [], 0, 0, 0, []⟩) := by rw [HAF.out]; exact askW_some (by rw [HA.out]; exact endA_yes _) (by omega)
        exact bodyPost_ret (v := .tuple #[.agg #[.int .i64 5, .string S2, .string ⟨#[]⟩, .int .i64 0, .int .i64 0, .int .i64 0, .slice none 0 0], .int .i64 0]) (by simp [results, Tryz.results9, go_sem, p0, p1, p2, p3, p4, p5, p6]) rfl (reads_ok (cv := .slice none 0 0) Q9.out hx (by rw [HS2.out]; rfl) (CellsAt.nil _ _))
      · have hl2 : 0 < nl := by omega
        have hl3 : decide ((nl : Int) > 0) = true := decide_eq_true (by omega)
        have hl4 : decide (0 < nl) = true := decide_eq_true (by omega)
        go_wp2_with fail
        obtain ⟨p0, p1, p2, p3, p4, p5, p6⟩ := Q9.out.told (.int .i64 0) (.string ⟨#[]⟩) (.string ⟨#[]⟩) (.int .i64 0) (.int .i64 0) (.int .i64 0) (.slice none 0 0)
        simp only [set7] at p0 p1 p2 p3 p4 p5 p6
        have hx : askF C = (2, Ask.no) := by rw [HAF.out]; exact askW_none (by rw [HA.out]; exact endA_no (.inr (fun e => hl (by rw [HNLF.out, e]; rfl)))) (by omega)
        exact bodyPost_ret (v := .tuple #[.agg #[.int .i64 0, .string ⟨#[]⟩, .string ⟨#[]⟩, .int .i64 0, .int .i64 0, .int .i64 0, .slice none 0 0], .int .i64 2]) (by simp [results, Tryz.results9, go_sem, p0, p1, p2, p3, p4, p5, p6]) rfl (reads_err Q9.out hx)
  · have hv : t0 = verbT 6 := verb_of HTT.out (by assumption : (T.toList == [98, 111, 120]) = true)
    have HV := Lib.hid (show verbOf t0 = 6 by rw [hv]; rfl)
    clear hv
    have H2 := Lib.hid (readPlace_any _ _ _ w1 G1.out.rd HFR.out)
    obtain ⟨S2, hS2⟩ : ∃ x, x = txt (r.headD []) := ⟨_, rfl⟩
    rw [← hS2] at H2
    have HS2 := Lib.hid hS2
    clear hS2
    with_reducible refine H2.out.mono ?_
    rintro e w2 ⟨rfl, r2, k2⟩
    have G2 := Lib.hid (G1.out.next r2 k2)
    have hs2 := k2.size
    clear r2 k2
    clear a0 a1 a2 a3 a4 a5 a6 f0 f1 f2 f3 f4 f5 f6 z0 z1 z2 z3 z4 z5 z6 g0 g1 g2 g3 g4 g5 g6
    obtain ⟨⟨a0, a1, a2, a3, a4, a5, a6⟩, af⟩ := seven G2.out.q
    have f0 := af 0; have f1 := af 1; have f2 := af 2; have f3 := af 3; have f4 := af 4; have f5 := af 5; have f6 := af 6
    clear af
    go_upto_region 27 with fail
    refine wp_namedR ?_
    intro W9 hW9
    replace hW9 : W9 = set7 w2 (w.heap.size + 3) (.int .i64 6) (.string S2) (.string ⟨#[]⟩) (.int .i64 0) (.int .i64 0) (.int .i64 0) (.slice none 0 0) := hW9
    have Q9 := Lib.hid (G2.out.wrote (.int .i64 6) (.string S2) (.string ⟨#[]⟩) (.int .i64 0) (.int .i64 0) (.int .i64 0) (.slice none 0 0) hW9)
    clear hW9 a0 a1 a2 a3 a4 a5 a6 f0 f1 f2 f3 f4 f5 f6
    have HA := Lib.hid (ask_p 6 (by omega) r)
    obtain ⟨lf, hlf⟩ : ∃ x, x = r.tail := ⟨_, rfl⟩
    obtain ⟨bd, hbd⟩ : ∃ x, x = (false || r.isEmpty || (!namedF (r.headD []) && !keyedF (r.headD []))) := ⟨_, rfl⟩
    rw [← hlf, ← hbd] at Q9 HA
    clear hlf hbd
    obtain ⟨nl, hnl⟩ : ∃ x, x = lf.length := ⟨_, rfl⟩
    obtain ⟨la, lc, l0, l1⟩ := Q9.out.left
    rw [← hnl] at l0
    have HNLF := Lib.hid hnl
    have HAF := Lib.hid (ask_of HC.out HR.out HV.out)
    obtain ⟨⟨a0, a1, a2, a3, a4, a5, a6⟩, af⟩ := seven (show W9.heap[w.heap.size]? = some (.cells #[_, _, _, _, _, _, _] _ _) from Q9.out.res)
    have f0 := af 0; have f1 := af 1; have f2 := af 2; have f3 := af 3; have f4 := af 4; have f5 := af 5; have f6 := af 6
    obtain ⟨⟨b0, b1, b2, b3, b4, b5, b6⟩, -⟩ := seven Q9.out.q
    clear hnl af
    by_cases hbd : bd = true
    · subst hbd
      go_wp2_with fail
      obtain ⟨p0, p1, p2, p3, p4, p5, p6⟩ := Q9.out.told (.int .i64 0) (.string ⟨#[]⟩) (.string ⟨#[]⟩) (.int .i64 0) (.int .i64 0) (.int .i64 0) (.slice none 0 0)
      simp only [set7] at p0 p1 p2 p3 p4 p5 p6
      have hx : askF C = (2, Ask.no) := by rw [HAF.out]; exact askW_none (by rw [HA.out]; exact endA_no (.inl rfl)) (by omega)
      exact bodyPost_ret (v := .tuple #[.agg #[.int .i64 0, .string ⟨#[]⟩, .string ⟨#[]⟩, .int .i64 0, .int .i64 0, .int .i64 0, .slice none 0 0], .int .i64 2]) (by simp [results, Tryz.results9, go_sem, p0, p1, p2, p3, p4, p5, p6]) rfl (reads_err Q9.out hx)
    · obtain rfl : bd = false := by simpa using hbd
      by_cases hl : nl = 0
      · subst hl
        obtain rfl : lf = [] := List.length_eq_zero_iff.1 HNLF.out.symm
        go_wp2_with fail
        obtain ⟨p0, p1, p2, p3, p4, p5, p6⟩ := Q9.out.told (.int .i64 6) (.string S2) (.string ⟨#[]⟩) (.int .i64 0) (.int .i64 0) (.int .i64 0) (.slice none 0 0)
        simp only [set7] at p0 p1 p2 p3 p4 p5 p6
        have hx : askF C = (0, ⟨6, (r.headD []), [], 0, 0, 0, []⟩) := by rw [HAF.out]; exact askW_some (by rw [HA.out]; exact endA_yes _) (by omega)
        exact bodyPost_ret (v := .tuple #[.agg #[.int .i64 6, .string S2, .string ⟨#[]⟩, .int .i64 0, .int .i64 0, .int .i64 0, .slice none 0 0], .int .i64 0]) (by simp [results, Tryz.results9, go_sem, p0, p1, p2, p3, p4, p5, p6]) rfl (reads_ok (cv := .slice none 0 0) Q9.out hx (by rw [HS2.out]; rfl) (CellsAt.nil _ _))
      · have hl2 : 0 < nl := by omega
        have hl3 : decide ((nl : Int) > 0) = true := decide_eq_true (by omega)
        have hl4 : decide (0 < nl) = true := decide_eq_true (by omega)
        go_wp2_with fail
        obtain ⟨p0, p1, p2, p3, p4, p5, p6⟩ := Q9.out.told (.int .i64 0) (.string ⟨#[]⟩) (.string ⟨#[]⟩) (.int .i64 0) (.int .i64 0) (.int .i64 0) (.slice none 0 0)
        simp only [set7] at p0 p1 p2 p3 p4 p5 p6
        have hx : askF C = (2, Ask.no) := by rw [HAF.out]; exact askW_none (by rw [HA.out]; exact endA_no (.inr (fun e => hl (by rw [HNLF.out, e]; rfl)))) (by omega)
        exact bodyPost_ret (v := .tuple #[.agg #[.int .i64 0, .string ⟨#[]⟩, .string ⟨#[]⟩, .int .i64 0, .int .i64 0, .int .i64 0, .slice none 0 0], .int .i64 2]) (by simp [results, Tryz.results9, go_sem, p0, p1, p2, p3, p4, p5, p6]) rfl (reads_err Q9.out hx)
  · have hv : t0 = verbT 7 := verb_of HTT.out (by assumption : (T.toList == [100, 114, 111, 112]) = true)
    have HV := Lib.hid (show verbOf t0 = 7 by rw [hv]; rfl)
    clear hv
    have H2 := Lib.hid (readName_any _ _ _ w1 G1.out.rd HFR.out)
    obtain ⟨S2, hS2⟩ : ∃ x, x = txt (r.headD []) := ⟨_, rfl⟩
    rw [← hS2] at H2
    have HS2 := Lib.hid hS2
    clear hS2
    with_reducible refine H2.out.mono ?_
    rintro e w2 ⟨rfl, r2, k2⟩
    have G2 := Lib.hid (G1.out.next r2 k2)
    have hs2 := k2.size
    clear r2 k2
    clear a0 a1 a2 a3 a4 a5 a6 f0 f1 f2 f3 f4 f5 f6 z0 z1 z2 z3 z4 z5 z6 g0 g1 g2 g3 g4 g5 g6
    obtain ⟨⟨a0, a1, a2, a3, a4, a5, a6⟩, af⟩ := seven G2.out.q
    have f0 := af 0; have f1 := af 1; have f2 := af 2; have f3 := af 3; have f4 := af 4; have f5 := af 5; have f6 := af 6
    clear af
    go_upto_region 27 with fail
    refine wp_namedR ?_
    intro W9 hW9
    replace hW9 : W9 = set7 w2 (w.heap.size + 3) (.int .i64 7) (.string S2) (.string ⟨#[]⟩) (.int .i64 0) (.int .i64 0) (.int .i64 0) (.slice none 0 0) := hW9
    have Q9 := Lib.hid (G2.out.wrote (.int .i64 7) (.string S2) (.string ⟨#[]⟩) (.int .i64 0) (.int .i64 0) (.int .i64 0) (.slice none 0 0) hW9)
    clear hW9 a0 a1 a2 a3 a4 a5 a6 f0 f1 f2 f3 f4 f5 f6
    have HA := Lib.hid (ask_n r)
    obtain ⟨lf, hlf⟩ : ∃ x, x = r.tail := ⟨_, rfl⟩
    obtain ⟨bd, hbd⟩ : ∃ x, x = (false || r.isEmpty || !namedF (r.headD [])) := ⟨_, rfl⟩
    rw [← hlf, ← hbd] at Q9 HA
    clear hlf hbd
    obtain ⟨nl, hnl⟩ : ∃ x, x = lf.length := ⟨_, rfl⟩
    obtain ⟨la, lc, l0, l1⟩ := Q9.out.left
    rw [← hnl] at l0
    have HNLF := Lib.hid hnl
    have HAF := Lib.hid (ask_of HC.out HR.out HV.out)
    obtain ⟨⟨a0, a1, a2, a3, a4, a5, a6⟩, af⟩ := seven (show W9.heap[w.heap.size]? = some (.cells #[_, _, _, _, _, _, _] _ _) from Q9.out.res)
    have f0 := af 0; have f1 := af 1; have f2 := af 2; have f3 := af 3; have f4 := af 4; have f5 := af 5; have f6 := af 6
    obtain ⟨⟨b0, b1, b2, b3, b4, b5, b6⟩, -⟩ := seven Q9.out.q
    clear hnl af
    by_cases hbd : bd = true
    · subst hbd
      go_wp2_with fail
      obtain ⟨p0, p1, p2, p3, p4, p5, p6⟩ := Q9.out.told (.int .i64 0) (.string ⟨#[]⟩) (.string ⟨#[]⟩) (.int .i64 0) (.int .i64 0) (.int .i64 0) (.slice none 0 0)
      simp only [set7] at p0 p1 p2 p3 p4 p5 p6
      have hx : askF C = (2, Ask.no) := by rw [HAF.out]; exact askW_none (by rw [HA.out]; exact endA_no (.inl rfl)) (by omega)
      exact bodyPost_ret (v := .tuple #[.agg #[.int .i64 0, .string ⟨#[]⟩, .string ⟨#[]⟩, .int .i64 0, .int .i64 0, .int .i64 0, .slice none 0 0], .int .i64 2]) (by simp [results, Tryz.results9, go_sem, p0, p1, p2, p3, p4, p5, p6]) rfl (reads_err Q9.out hx)
    · obtain rfl : bd = false := by simpa using hbd
      by_cases hl : nl = 0
      · subst hl
        obtain rfl : lf = [] := List.length_eq_zero_iff.1 HNLF.out.symm
        go_wp2_with fail
        obtain ⟨p0, p1, p2, p3, p4, p5, p6⟩ := Q9.out.told (.int .i64 7) (.string S2) (.string ⟨#[]⟩) (.int .i64 0) (.int .i64 0) (.int .i64 0) (.slice none 0 0)
        simp only [set7] at p0 p1 p2 p3 p4 p5 p6
        have hx : askF C = (0, ⟨7, (r.headD []), [], 0, 0, 0, []⟩) := by rw [HAF.out]; exact askW_some (by rw [HA.out]; exact endA_yes _) (by omega)
        exact bodyPost_ret (v := .tuple #[.agg #[.int .i64 7, .string S2, .string ⟨#[]⟩, .int .i64 0, .int .i64 0, .int .i64 0, .slice none 0 0], .int .i64 0]) (by simp [results, Tryz.results9, go_sem, p0, p1, p2, p3, p4, p5, p6]) rfl (reads_ok (cv := .slice none 0 0) Q9.out hx (by rw [HS2.out]; rfl) (CellsAt.nil _ _))
      · have hl2 : 0 < nl := by omega
        have hl3 : decide ((nl : Int) > 0) = true := decide_eq_true (by omega)
        have hl4 : decide (0 < nl) = true := decide_eq_true (by omega)
        go_wp2_with fail
        obtain ⟨p0, p1, p2, p3, p4, p5, p6⟩ := Q9.out.told (.int .i64 0) (.string ⟨#[]⟩) (.string ⟨#[]⟩) (.int .i64 0) (.int .i64 0) (.int .i64 0) (.slice none 0 0)
        simp only [set7] at p0 p1 p2 p3 p4 p5 p6
        have hx : askF C = (2, Ask.no) := by rw [HAF.out]; exact askW_none (by rw [HA.out]; exact endA_no (.inr (fun e => hl (by rw [HNLF.out, e]; rfl)))) (by omega)
        exact bodyPost_ret (v := .tuple #[.agg #[.int .i64 0, .string ⟨#[]⟩, .string ⟨#[]⟩, .int .i64 0, .int .i64 0, .int .i64 0, .slice none 0 0], .int .i64 2]) (by simp [results, Tryz.results9, go_sem, p0, p1, p2, p3, p4, p5, p6]) rfl (reads_err Q9.out hx)
  · have hv : t0 = verbT 8 := verb_of HTT.out (by assumption : (T.toList == [99, 111, 112, 121]) = true)
    have HV := Lib.hid (show verbOf t0 = 8 by rw [hv]; rfl)
    clear hv
    have H2 := Lib.hid (readPlace_any _ _ _ w1 G1.out.rd HFR.out)
    obtain ⟨S2, hS2⟩ : ∃ x, x = txt (r.headD []) := ⟨_, rfl⟩
    rw [← hS2] at H2
    have HS2 := Lib.hid hS2
    clear hS2
    with_reducible refine H2.out.mono ?_
    rintro e w2 ⟨rfl, r2, k2⟩
    have G2 := Lib.hid (G1.out.next r2 k2)
    have hs2 := k2.size
    clear r2 k2
    go_wp2_with fail
    have HFR2 := Lib.hid HFR.out.tail
    have H3 := Lib.hid (readName_any _ _ _ w2 G2.out.rd HFR2.out)
    obtain ⟨S3, hS3⟩ : ∃ x, x = txt (r.tail.headD []) := ⟨_, rfl⟩
    rw [← hS3] at H3
    have HS3 := Lib.hid hS3
    clear hS3
    with_reducible refine H3.out.mono ?_
    rintro e w3 ⟨rfl, r3, k3⟩
    have G3 := Lib.hid (G2.out.next r3 k3)
    have hs3 := k3.size
    clear r3 k3
    clear a0 a1 a2 a3 a4 a5 a6 f0 f1 f2 f3 f4 f5 f6 z0 z1 z2 z3 z4 z5 z6 g0 g1 g2 g3 g4 g5 g6
    obtain ⟨⟨a0, a1, a2, a3, a4, a5, a6⟩, af⟩ := seven G3.out.q
    have f0 := af 0; have f1 := af 1; have f2 := af 2; have f3 := af 3; have f4 := af 4; have f5 := af 5; have f6 := af 6
    clear af
    go_upto_region 27 with fail
    refine wp_namedR ?_
    intro W9 hW9
    replace hW9 : W9 = set7 w3 (w.heap.size + 3) (.int .i64 8) (.string S2) (.string S3) (.int .i64 0) (.int .i64 0) (.int .i64 0) (.slice none 0 0) := hW9
    have Q9 := Lib.hid (G3.out.wrote (.int .i64 8) (.string S2) (.string S3) (.int .i64 0) (.int .i64 0) (.int .i64 0) (.slice none 0 0) hW9)
    clear hW9 a0 a1 a2 a3 a4 a5 a6 f0 f1 f2 f3 f4 f5 f6
    have HA := Lib.hid (ask_pn r)
    obtain ⟨lf, hlf⟩ : ∃ x, x = r.tail.tail := ⟨_, rfl⟩
    obtain ⟨bd, hbd⟩ : ∃ x, x = ((false || r.isEmpty || (!namedF (r.headD []) && !keyedF (r.headD []))) || r.tail.isEmpty || !namedF (r.tail.headD [])) := ⟨_, rfl⟩
    rw [← hlf, ← hbd] at Q9 HA
    clear hlf hbd
    obtain ⟨nl, hnl⟩ : ∃ x, x = lf.length := ⟨_, rfl⟩
    obtain ⟨la, lc, l0, l1⟩ := Q9.out.left
    rw [← hnl] at l0
    have HNLF := Lib.hid hnl
    have HAF := Lib.hid (ask_of HC.out HR.out HV.out)
    obtain ⟨⟨a0, a1, a2, a3, a4, a5, a6⟩, af⟩ := seven (show W9.heap[w.heap.size]? = some (.cells #[_, _, _, _, _, _, _] _ _) from Q9.out.res)
    have f0 := af 0; have f1 := af 1; have f2 := af 2; have f3 := af 3; have f4 := af 4; have f5 := af 5; have f6 := af 6
    obtain ⟨⟨b0, b1, b2, b3, b4, b5, b6⟩, -⟩ := seven Q9.out.q
    clear hnl af
    by_cases hbd : bd = true
    · subst hbd
      go_wp2_with fail
      obtain ⟨p0, p1, p2, p3, p4, p5, p6⟩ := Q9.out.told (.int .i64 0) (.string ⟨#[]⟩) (.string ⟨#[]⟩) (.int .i64 0) (.int .i64 0) (.int .i64 0) (.slice none 0 0)
      simp only [set7] at p0 p1 p2 p3 p4 p5 p6
      have hx : askF C = (2, Ask.no) := by rw [HAF.out]; exact askW_none (by rw [HA.out]; exact endA_no (.inl rfl)) (by omega)
      exact bodyPost_ret (v := .tuple #[.agg #[.int .i64 0, .string ⟨#[]⟩, .string ⟨#[]⟩, .int .i64 0, .int .i64 0, .int .i64 0, .slice none 0 0], .int .i64 2]) (by simp [results, Tryz.results9, go_sem, p0, p1, p2, p3, p4, p5, p6]) rfl (reads_err Q9.out hx)
    · obtain rfl : bd = false := by simpa using hbd
      by_cases hl : nl = 0
      · subst hl
        obtain rfl : lf = [] := List.length_eq_zero_iff.1 HNLF.out.symm
        go_wp2_with fail
        obtain ⟨p0, p1, p2, p3, p4, p5, p6⟩ := Q9.out.told (.int .i64 8) (.string S2) (.string S3) (.int .i64 0) (.int .i64 0) (.int .i64 0) (.slice none 0 0)
        simp only [set7] at p0 p1 p2 p3 p4 p5 p6
        have hx : askF C = (0, ⟨8, (r.headD []), (r.tail.headD []), 0, 0, 0, []⟩) := by rw [HAF.out]; exact askW_some (by rw [HA.out]; exact endA_yes _) (by omega)
        exact bodyPost_ret (v := .tuple #[.agg #[.int .i64 8, .string S2, .string S3, .int .i64 0, .int .i64 0, .int .i64 0, .slice none 0 0], .int .i64 0]) (by simp [results, Tryz.results9, go_sem, p0, p1, p2, p3, p4, p5, p6]) rfl (reads_ok (cv := .slice none 0 0) Q9.out hx (by rw [HS2.out, HS3.out]; rfl) (CellsAt.nil _ _))
      · have hl2 : 0 < nl := by omega
        have hl3 : decide ((nl : Int) > 0) = true := decide_eq_true (by omega)
        have hl4 : decide (0 < nl) = true := decide_eq_true (by omega)
        go_wp2_with fail
        obtain ⟨p0, p1, p2, p3, p4, p5, p6⟩ := Q9.out.told (.int .i64 0) (.string ⟨#[]⟩) (.string ⟨#[]⟩) (.int .i64 0) (.int .i64 0) (.int .i64 0) (.slice none 0 0)
        simp only [set7] at p0 p1 p2 p3 p4 p5 p6
        have hx : askF C = (2, Ask.no) := by rw [HAF.out]; exact askW_none (by rw [HA.out]; exact endA_no (.inr (fun e => hl (by rw [HNLF.out, e]; rfl)))) (by omega)
        exact bodyPost_ret (v := .tuple #[.agg #[.int .i64 0, .string ⟨#[]⟩, .string ⟨#[]⟩, .int .i64 0, .int .i64 0, .int .i64 0, .slice none 0 0], .int .i64 2]) (by simp [results, Tryz.results9, go_sem, p0, p1, p2, p3, p4, p5, p6]) rfl (reads_err Q9.out hx)
  · have hv : t0 = verbT 9 := verb_of HTT.out (by assumption : (T.toList == [108, 101, 97, 115, 101]) = true)
    have HV := Lib.hid (show verbOf t0 = 9 by rw [hv]; rfl)
    clear hv
    have H2 := Lib.hid (readName_any _ _ _ w1 G1.out.rd HFR.out)
    obtain ⟨S2, hS2⟩ : ∃ x, x = txt (r.headD []) := ⟨_, rfl⟩
    rw [← hS2] at H2
    have HS2 := Lib.hid hS2
    clear hS2
    with_reducible refine H2.out.mono ?_
    rintro e w2 ⟨rfl, r2, k2⟩
    have G2 := Lib.hid (G1.out.next r2 k2)
    have hs2 := k2.size
    clear r2 k2
    go_wp2_with fail
    have HFR2 := Lib.hid HFR.out.tail
    have H3 := Lib.hid (readNum_any _ _ _ w2 G2.out.rd HFR2.out)
    obtain ⟨X3, hX3⟩ : ∃ x, x = (if okS (r.tail.headD []) = true then valS (r.tail.headD []) else 0) := ⟨_, rfl⟩
    rw [← hX3] at H3
    have HX3 := Lib.hid hX3
    clear hX3
    with_reducible refine H3.out.mono ?_
    rintro e w3 ⟨rfl, r3, k3⟩
    have G3 := Lib.hid (G2.out.next r3 k3)
    have hs3 := k3.size
    clear r3 k3
    clear a0 a1 a2 a3 a4 a5 a6 f0 f1 f2 f3 f4 f5 f6 z0 z1 z2 z3 z4 z5 z6 g0 g1 g2 g3 g4 g5 g6
    obtain ⟨⟨a0, a1, a2, a3, a4, a5, a6⟩, af⟩ := seven G3.out.q
    have f0 := af 0; have f1 := af 1; have f2 := af 2; have f3 := af 3; have f4 := af 4; have f5 := af 5; have f6 := af 6
    clear af
    go_upto_region 27 with fail
    refine wp_namedR ?_
    intro W9 hW9
    replace hW9 : W9 = set7 w3 (w.heap.size + 3) (.int .i64 9) (.string S2) (.string ⟨#[]⟩) (.int .i64 0) (.int .i64 0) (.int .i64 X3) (.slice none 0 0) := hW9
    have Q9 := Lib.hid (G3.out.wrote (.int .i64 9) (.string S2) (.string ⟨#[]⟩) (.int .i64 0) (.int .i64 0) (.int .i64 X3) (.slice none 0 0) hW9)
    clear hW9 a0 a1 a2 a3 a4 a5 a6 f0 f1 f2 f3 f4 f5 f6
    have HA := Lib.hid (ask_nd r)
    rw [← HX3.out] at HA
    obtain ⟨lf, hlf⟩ : ∃ x, x = r.tail.tail := ⟨_, rfl⟩
    obtain ⟨bd, hbd⟩ : ∃ x, x = ((false || r.isEmpty || !namedF (r.headD [])) || r.tail.isEmpty || !okS (r.tail.headD [])) := ⟨_, rfl⟩
    rw [← hlf, ← hbd] at Q9 HA
    clear hlf hbd
    obtain ⟨nl, hnl⟩ : ∃ x, x = lf.length := ⟨_, rfl⟩
    obtain ⟨la, lc, l0, l1⟩ := Q9.out.left
    rw [← hnl] at l0
    have HNLF := Lib.hid hnl
    have HAF := Lib.hid (ask_of HC.out HR.out HV.out)
    obtain ⟨⟨a0, a1, a2, a3, a4, a5, a6⟩, af⟩ := seven (show W9.heap[w.heap.size]? = some (.cells #[_, _, _, _, _, _, _] _ _) from Q9.out.res)
    have f0 := af 0; have f1 := af 1; have f2 := af 2; have f3 := af 3; have f4 := af 4; have f5 := af 5; have f6 := af 6
    obtain ⟨⟨b0, b1, b2, b3, b4, b5, b6⟩, -⟩ := seven Q9.out.q
    clear hnl af
    by_cases hbd : bd = true
    · subst hbd
      go_wp2_with fail
      obtain ⟨p0, p1, p2, p3, p4, p5, p6⟩ := Q9.out.told (.int .i64 0) (.string ⟨#[]⟩) (.string ⟨#[]⟩) (.int .i64 0) (.int .i64 0) (.int .i64 0) (.slice none 0 0)
      simp only [set7] at p0 p1 p2 p3 p4 p5 p6
      have hx : askF C = (2, Ask.no) := by rw [HAF.out]; exact askW_none (by rw [HA.out]; exact endA_no (.inl rfl)) (by omega)
      exact bodyPost_ret (v := .tuple #[.agg #[.int .i64 0, .string ⟨#[]⟩, .string ⟨#[]⟩, .int .i64 0, .int .i64 0, .int .i64 0, .slice none 0 0], .int .i64 2]) (by simp [results, Tryz.results9, go_sem, p0, p1, p2, p3, p4, p5, p6]) rfl (reads_err Q9.out hx)
    · obtain rfl : bd = false := by simpa using hbd
      by_cases hl : nl = 0
      · subst hl
        obtain rfl : lf = [] := List.length_eq_zero_iff.1 HNLF.out.symm
        go_wp2_with fail
        obtain ⟨p0, p1, p2, p3, p4, p5, p6⟩ := Q9.out.told (.int .i64 9) (.string S2) (.string ⟨#[]⟩) (.int .i64 0) (.int .i64 0) (.int .i64 X3) (.slice none 0 0)
        simp only [set7] at p0 p1 p2 p3 p4 p5 p6
        have hx : askF C = (0, ⟨9, (r.headD []), [], 0, 0, X3, []⟩) := by rw [HAF.out]; exact askW_some (by rw [HA.out]; exact endA_yes _) (by omega)
        exact bodyPost_ret (v := .tuple #[.agg #[.int .i64 9, .string S2, .string ⟨#[]⟩, .int .i64 0, .int .i64 0, .int .i64 X3, .slice none 0 0], .int .i64 0]) (by simp [results, Tryz.results9, go_sem, p0, p1, p2, p3, p4, p5, p6]) rfl (reads_ok (cv := .slice none 0 0) Q9.out hx (by rw [HS2.out]; rfl) (CellsAt.nil _ _))
      · have hl2 : 0 < nl := by omega
        have hl3 : decide ((nl : Int) > 0) = true := decide_eq_true (by omega)
        have hl4 : decide (0 < nl) = true := decide_eq_true (by omega)
        go_wp2_with fail
        obtain ⟨p0, p1, p2, p3, p4, p5, p6⟩ := Q9.out.told (.int .i64 0) (.string ⟨#[]⟩) (.string ⟨#[]⟩) (.int .i64 0) (.int .i64 0) (.int .i64 0) (.slice none 0 0)
        simp only [set7] at p0 p1 p2 p3 p4 p5 p6
        have hx : askF C = (2, Ask.no) := by rw [HAF.out]; exact askW_none (by rw [HA.out]; exact endA_no (.inr (fun e => hl (by rw [HNLF.out, e]; rfl)))) (by omega)
        exact bodyPost_ret (v := .tuple #[.agg #[.int .i64 0, .string ⟨#[]⟩, .string ⟨#[]⟩, .int .i64 0, .int .i64 0, .int .i64 0, .slice none 0 0], .int .i64 2]) (by simp [results, Tryz.results9, go_sem, p0, p1, p2, p3, p4, p5, p6]) rfl (reads_err Q9.out hx)
  · have hv : t0 = verbT 10 := verb_of HTT.out (by assumption : (T.toList == [99, 108, 101, 97, 110]) = true)
    have HV := Lib.hid (show verbOf t0 = 10 by rw [hv]; rfl)
    clear hv
    clear a0 a1 a2 a3 a4 a5 a6 f0 f1 f2 f3 f4 f5 f6 z0 z1 z2 z3 z4 z5 z6 g0 g1 g2 g3 g4 g5 g6
    obtain ⟨⟨a0, a1, a2, a3, a4, a5, a6⟩, af⟩ := seven G1.out.q
    have f0 := af 0; have f1 := af 1; have f2 := af 2; have f3 := af 3; have f4 := af 4; have f5 := af 5; have f6 := af 6
    clear af
    refine wp_namedR ?_
    intro W9 hW9
    replace hW9 : W9 = set7 w1 (w.heap.size + 3) (.int .i64 10) (.string ⟨#[]⟩) (.string ⟨#[]⟩) (.int .i64 0) (.int .i64 0) (.int .i64 0) (.slice none 0 0) := hW9
    have Q9 := Lib.hid (G1.out.wrote (.int .i64 10) (.string ⟨#[]⟩) (.string ⟨#[]⟩) (.int .i64 0) (.int .i64 0) (.int .i64 0) (.slice none 0 0) hW9)
    clear hW9 a0 a1 a2 a3 a4 a5 a6 f0 f1 f2 f3 f4 f5 f6
    have HA := Lib.hid (ask_c r)
    obtain ⟨lf, hlf⟩ : ∃ x, x = r := ⟨_, rfl⟩
    obtain ⟨bd, hbd⟩ : ∃ x, x = false := ⟨_, rfl⟩
    have HA := Lib.hid (show askV 10 r = endA bd lf ⟨10, [], [], 0, 0, 0, []⟩ by rw [hlf, hbd]; exact ask_c r)
    rw [← hlf, ← hbd] at Q9
    clear hlf hbd
    obtain ⟨nl, hnl⟩ : ∃ x, x = lf.length := ⟨_, rfl⟩
    obtain ⟨la, lc, l0, l1⟩ := Q9.out.left
    rw [← hnl] at l0
    have HNLF := Lib.hid hnl
    have HAF := Lib.hid (ask_of HC.out HR.out HV.out)
    obtain ⟨⟨a0, a1, a2, a3, a4, a5, a6⟩, af⟩ := seven (show W9.heap[w.heap.size]? = some (.cells #[_, _, _, _, _, _, _] _ _) from Q9.out.res)
    have f0 := af 0; have f1 := af 1; have f2 := af 2; have f3 := af 3; have f4 := af 4; have f5 := af 5; have f6 := af 6
    obtain ⟨⟨b0, b1, b2, b3, b4, b5, b6⟩, -⟩ := seven Q9.out.q
    clear hnl af
    by_cases hbd : bd = true
    · subst hbd
      go_wp2_with fail
      obtain ⟨p0, p1, p2, p3, p4, p5, p6⟩ := Q9.out.told (.int .i64 0) (.string ⟨#[]⟩) (.string ⟨#[]⟩) (.int .i64 0) (.int .i64 0) (.int .i64 0) (.slice none 0 0)
      simp only [set7] at p0 p1 p2 p3 p4 p5 p6
      have hx : askF C = (2, Ask.no) := by rw [HAF.out]; exact askW_none (by rw [HA.out]; exact endA_no (.inl rfl)) (by omega)
      exact bodyPost_ret (v := .tuple #[.agg #[.int .i64 0, .string ⟨#[]⟩, .string ⟨#[]⟩, .int .i64 0, .int .i64 0, .int .i64 0, .slice none 0 0], .int .i64 2]) (by simp [results, Tryz.results9, go_sem, p0, p1, p2, p3, p4, p5, p6]) rfl (reads_err Q9.out hx)
    · obtain rfl : bd = false := by simpa using hbd
      by_cases hl : nl = 0
      · subst hl
        obtain rfl : lf = [] := List.length_eq_zero_iff.1 HNLF.out.symm
        go_wp2_with fail
        obtain ⟨p0, p1, p2, p3, p4, p5, p6⟩ := Q9.out.told (.int .i64 10) (.string ⟨#[]⟩) (.string ⟨#[]⟩) (.int .i64 0) (.int .i64 0) (.int .i64 0) (.slice none 0 0)
        simp only [set7] at p0 p1 p2 p3 p4 p5 p6
        have hx : askF C = (0, ⟨10, [], [], 0, 0, 0, []⟩) := by rw [HAF.out]; exact askW_some (by rw [HA.out]; exact endA_yes _) (by omega)
        exact bodyPost_ret (v := .tuple #[.agg #[.int .i64 10, .string ⟨#[]⟩, .string ⟨#[]⟩, .int .i64 0, .int .i64 0, .int .i64 0, .slice none 0 0], .int .i64 0]) (by simp [results, Tryz.results9, go_sem, p0, p1, p2, p3, p4, p5, p6]) rfl (reads_ok (cv := .slice none 0 0) Q9.out hx (rfl) (CellsAt.nil _ _))
      · have hl2 : 0 < nl := by omega
        have hl3 : decide ((nl : Int) > 0) = true := decide_eq_true (by omega)
        have hl4 : decide (0 < nl) = true := decide_eq_true (by omega)
        go_wp2_with fail
        obtain ⟨p0, p1, p2, p3, p4, p5, p6⟩ := Q9.out.told (.int .i64 0) (.string ⟨#[]⟩) (.string ⟨#[]⟩) (.int .i64 0) (.int .i64 0) (.int .i64 0) (.slice none 0 0)
        simp only [set7] at p0 p1 p2 p3 p4 p5 p6
        have hx : askF C = (2, Ask.no) := by rw [HAF.out]; exact askW_none (by rw [HA.out]; exact endA_no (.inr (fun e => hl (by rw [HNLF.out, e]; rfl)))) (by omega)
        exact bodyPost_ret (v := .tuple #[.agg #[.int .i64 0, .string ⟨#[]⟩, .string ⟨#[]⟩, .int .i64 0, .int .i64 0, .int .i64 0, .slice none 0 0], .int .i64 2]) (by simp [results, Tryz.results9, go_sem, p0, p1, p2, p3, p4, p5, p6]) rfl (reads_err Q9.out hx)
  · have HV := Lib.hid (show verbOf t0 = 0 by
      have n1 := verb_not HTT.out (by assumption : (T.toList == [110, 101, 119]) = false)
      have n2 := verb_not HTT.out (by assumption : (T.toList == [115, 101, 116]) = false)
      have n3 := verb_not HTT.out (by assumption : (T.toList == [103, 101, 116]) = false)
      have n4 := verb_not HTT.out (by assumption : (T.toList == [115, 116, 101, 112]) = false)
      have n5 := verb_not HTT.out (by assumption : (T.toList == [99, 111, 117, 110, 116]) = false)
      have n6 := verb_not HTT.out (by assumption : (T.toList == [98, 111, 120]) = false)
      have n7 := verb_not HTT.out (by assumption : (T.toList == [100, 114, 111, 112]) = false)
      have n8 := verb_not HTT.out (by assumption : (T.toList == [99, 111, 112, 121]) = false)
      have n9 := verb_not HTT.out (by assumption : (T.toList == [108, 101, 97, 115, 101]) = false)
      have n10 := verb_not HTT.out (by assumption : (T.toList == [99, 108, 101, 97, 110]) = false)
      simp only [verbOf, verbUp, verbT, if_neg, n1, n2, n3, n4, n5, n6, n7, n8, n9, n10]
      rfl)
    obtain ⟨p0, p1, p2, p3, p4, p5, p6⟩ := G1.out.told (.int .i64 0) (.string ⟨#[]⟩) (.string ⟨#[]⟩) (.int .i64 0) (.int .i64 0) (.int .i64 0) (.slice none 0 0)
    simp only [set7] at p0 p1 p2 p3 p4 p5 p6
    have hx : askF C = (4, Ask.no) := (ask_of HC.out HR.out HV.out).trans (askW_zero r)
    exact bodyPost_ret (v := .tuple #[.agg #[.int .i64 0, .string ⟨#[]⟩, .string ⟨#[]⟩, .int .i64 0, .int .i64 0, .int .i64 0, .slice none 0 0], .int .i64 4]) (by simp [results, Tryz.results9, go_sem, p0, p1, p2, p3, p4, p5, p6]) rfl (reads_no (G1.out.belowT _ _ _ _ _ _ _) hx)
end Go.Proofs.YtdmamecfmfhlmaaGreatDoor
