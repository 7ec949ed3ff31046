/-
  The document's reading of a line.
-/
import Derived.Test.YtdmamecfmfhlmaaGreatDoorZSpeechWritesRefAskD
namespace Go.Proofs.YtdmamecfmfhlmaaGreatDoor
set_option maxRecDepth 100000
open Go.RowKit

set_option maxHeartbeats 40000000 in
theorem refAsk_short (B : Nat) (C : List UInt8) (w : World) (hC : C.length ≤ 6000) (hB : B ≤ w.heap.size) (hVN : StrsAt B w 1 namesT) (hFM : StrsAt B w 2 formsT) :
    Calls Tryz.prog 14 #[.string (txt C)] w (ReadsTo w (askF C)) := by
  have HS := Lib.hid (fun W => splitAt_any 32 C W (by omega))
  obtain ⟨S, hS⟩ : ∃ S, S = txt C := ⟨_, rfl⟩
  have hsz : S.size = C.length := by rw [hS, txt_size]
  obtain ⟨t0, r, hr⟩ := List.exists_cons_of_ne_nil (splC_ne 32 C)
  have hlen := splC_len 32 C
  have hcnt : C.count 32 ≤ C.length := List.count_le_length
  have hpc := splC_piece 32 C
  rw [hr] at HS hlen hpc
  have hft : Fits (t0 :: r) := fun t ht => Nat.le_trans (hpc t ht) hC
  have hn : (t0 :: r).length ≤ 10000 := by omega
  rw [← hS] at HS
  rw [← hS]
  have hu8 : ((32 : UInt8).toNat) = 32 := rfl
  rw [hu8] at HS
  have HR := Lib.hid hr
  have HC := Lib.hid hC
  have HFT := Lib.hid hft
  have HNL := Lib.hid hn
  have HVN := Lib.hid hVN
  have HFM := Lib.hid hFM
  have HBB := Lib.hid hB
  clear hS hr hlen hcnt hpc hft hn hVN hFM hu8
  go_enter Tryz.func14, Tryz.ntmps14
  go_wp2_with fail
  refine (HS.out _).mono ?_
  rintro e w1 ⟨v, rfl, hb1, hp1⟩
  replace hb1 : Below (w.alloc (.cells zero7 26)).heap.size (w.alloc (.cells zero7 26)) w1 := hb1
  replace hp1 : PiecesAt (w.heap.size + 1) w1 v (t0 :: r) := ⟨hp1.1, fun x hx => by have := hp1.2 x hx; simpa using this⟩
  obtain ⟨n, hnn⟩ : ∃ n, n = r.length + 1 := ⟨_, rfl⟩
  obtain ⟨a, c, rfl, hnc, hcm, -⟩ := hp1.1.form
  obtain ⟨gw, ow, rfl, hcl, hfz, hgl⟩ := hp1.1.cells (by simp)
  have hw0 : w1.cell? ⟨gw, ow, none⟩ = some (.string (txt t0)) := by
    have := hcl 0 (by simp)
    rw [Nat.add_zero] at this
    rw [this]; rfl
  go_upto_region 5 with fail
  refine wp_namedR ?_
  intro W3 hW3
  have hbz : Below w.heap.size w (w.alloc (.cells zero7 26)) := (Below.refl _ _).alloc (Nat.le_refl _) _
  have hzz : (w.alloc (.cells zero7 26)).heap.size = w.heap.size + 1 := by simp
  have hb2 : Below w1.heap.size w1 W3 := by rw [hW3]; exact (Below.refl _ _).alloc (Nat.le_refl _) _
  have hs1 := hb1.size
  have D3 : DSt w W3 w1.heap.size ⟨0, [], [], 0, 0, 0, []⟩ (.slice none 0 0) (.slice (some ⟨gw, ow, none⟩) (t0 :: r).length c) (t0 :: r) := by
    refine ⟨?_, ?_, by rw [hzz] at hs1; omega, ⟨(hp1.below hb2).1, fun x hx => ?_⟩, ?_⟩
    · rw [hb2.block _ (by rw [hzz] at hs1; omega), hb1.block _ (by rw [hzz]; omega)]
      exact blk_last w _ rfl
    · rw [hW3]; exact blk_last w1 _ rfl
    · have := hp1.2 x hx; omega
    · exact (hbz.trans (hb1.mono (by rw [hzz]; omega))).trans (hb2.mono (by rw [hzz] at hs1; omega))
  have HD3 := Lib.hid D3
  have hgw : gw ≠ w1.heap.size := by omega
  have hg3 : gw < W3.heap.size := by have := hb2.size; omega
  have hw3 := (World.cell?_of_block (hb2.block gw hgl) : W3.cell? ⟨gw, ow, none⟩ = _).trans hw0
  obtain ⟨gq, hgq⟩ : ∃ x, x = w1.heap.size := ⟨_, rfl⟩
  rw [← hgq] at HD3 hgw ⊢
  have hnn2 : (t0 :: r).length = n := hnn.symm
  rw [hnn2] at HD3
  rw [← hnn]
  have HN := Lib.hid hnn
  have HW3 := Lib.hid hw3
  have HGW := Lib.hid hgw
  clear hW3 hb2 D3 hb1 hp1 hcl hfz hbz hzz hs1 hgw hg3 hw3 hw0 hgl hnn hgq hnn2
  go_wp2_with fail
  go_loopw [6] (fun kv wr => ∃ j : Nat, kv = .int .i64 j ∧ 1 ≤ j ∧ j ≤ 11 ∧ Aside (DSt w wr gq ⟨(verbUp t0 (j - 1) : Nat), [], [], 0, 0, 0, []⟩ (.slice none 0 0) (.slice (some ⟨gw, ow, none⟩) n c) (t0 :: r)) ∧ wr.cell? ⟨gw, ow, none⟩ = some (.string (txt t0))) (fun kv _ => 11 - (intOf kv).toNat)
  case atStart =>
    exact ⟨1, rfl, by omega, by omega, HD3.out, HW3.out⟩
  case round =>
    obtain ⟨j, rfl, hj1, hj, HD, hw⟩ := hrel
    obtain ⟨⟨q0, q1, q2, q3, q4, q5, q6⟩, qf⟩ := HD.out.seven
    have qf0 := qf 0
    clear qf
    obtain ⟨b0, o0, cap0, n1, n2, n3, n4, n5⟩ := HVN.out.on (HD.out.below.mono HBB.out)
    have HN5 := Lib.hid n5
    have hlt0 := lt_of_block HD.out.q
    have n1' : wr.cell? ⟨1, 0, none⟩ = some (.slice (some ⟨b0, o0, none⟩) 11 cap0) := n1
    have n2' : 11 ≤ cap0 := n2
    have hnp : 0 < n := by have := HN.out; omega
    have hwr := HD.out.below.size
    clear n5 n1 n2
    by_cases hlt : j < 11
    · have hv := HN5.out j _ (names_at j (by omega))
      obtain ⟨V, hV⟩ : ∃ V, V = txt (verbT j) := ⟨_, rfl⟩
      obtain ⟨T, hT⟩ : ∃ T, T = txt t0 := ⟨_, rfl⟩
      rw [← hV] at hv
      rw [← hT] at hw
      have HTB := Lib.hid (show (T.toList == V.toList) = decide (t0 = verbT j) by rw [hT, hV, verb_txt])
      have HTT := Lib.hid hT
      have hup : verbUp t0 j = if t0 = verbT j then j else verbUp t0 (j - 1) := by
        obtain ⟨m, rfl⟩ : ∃ m, j = m + 1 := ⟨j - 1, by omega⟩
        rfl
      have HUP := Lib.hid hup
      have i0 : (0 : Int) ≤ (j : Int) := by omega
      have i1 : (j : Int) < 11 := by omega
      clear hT hV hup
      go_wp2_with fail
      go_region
      go_wp2_with fail
      · have hb : t0 = verbT j := by
          have h1 : (T.toList == V.toList) = true := by assumption
          rw [HTB.out] at h1
          exact of_decide_eq_true h1
        refine ⟨⟨j + 1, by go_num, by omega, by omega, ?_, ?_⟩, by simp [intOf]; omega⟩
        · show DSt _ _ _ _ _ _ _
          refine (HD.out.store 0 (.int .i64 j) ?_).drew
          rw [Nat.add_sub_cancel, HUP.out, if_pos hb]
          rfl
        · rw [← HTT.out]
          exact (World.cell?_of_block (Below.heap_setCell wr ⟨gq, 0, none⟩ _ gw (by show gw ≠ gq; exact HGW.out))).trans hw
      · have hb : ¬ t0 = verbT j := by
          have h1 : (T.toList == V.toList) = false := by assumption
          rw [HTB.out] at h1
          exact of_decide_eq_false h1
        refine ⟨⟨j + 1, by go_num, by omega, by omega, ?_, ?_⟩, by simp [intOf]; omega⟩
        · show DSt _ _ _ _ _ _ _
          rw [Nat.add_sub_cancel, HUP.out, if_neg hb]
          exact HD.out.drew
        · rw [← HTT.out]
          exact hw
    · obtain rfl : j = 11 := by omega
      have hK : verbUp t0 (11 - 1) = verbOf t0 := rfl
      rw [hK] at HD q0
      obtain ⟨K, hKK⟩ : ∃ K, K = verbOf t0 := ⟨_, rfl⟩
      rw [← hKK] at HD q0
      have HKK := Lib.hid hKK
      clear hK hKK
      by_cases hK0 : K = 0
      · subst hK0
        obtain ⟨⟨z0, z1, z2, z3, z4, z5, z6⟩, zf⟩ := Go.Proofs.YtdmamecfmfhlmaaGreatDoor.seven (show wr.heap[w.heap.size]? = some (.cells #[_, _, _, _, _, _, _] _ _) from HD.out.res)
        have f0 := zf 0; have f1 := zf 1; have f2 := zf 2; have f3 := zf 3; have f4 := zf 4; have f5 := zf 5; have f6 := zf 6
        clear zf
        go_wp2_with fail
        obtain ⟨p0, p1, p2, p3, p4, p5, p6⟩ := HD.out.told (.int .i64 0) (.string ⟨#[]⟩) (.string ⟨#[]⟩) (.int .i64 0) (.int .i64 0) (.int .i64 0) (.slice none 0 0)
        simp only [set7] at p0 p1 p2 p3 p4 p5 p6
        have hx : askF C = (4, Ask.no) := (ask_of HC.out HR.out HKK.out.symm).trans (askW_zero r)
        exact bodyPost_ret (v := .tuple #[.agg #[.int .i64 0, .string ⟨#[]⟩, .string ⟨#[]⟩, .int .i64 0, .int .i64 0, .int .i64 0, .slice none 0 0], .int .i64 4]) (by simp [results, Tryz.results14, go_sem, p0, p1, p2, p3, p4, p5, p6]) rfl (HD.out.no hx)
      · have hK10 : K ≤ 10 := by rw [HKK.out]; exact verb_le t0
        obtain ⟨b1, o1, cap1, m1, m2, m3, m4, m5⟩ := HFM.out.on (HD.out.below.mono HBB.out)
        have m1' : wr.cell? ⟨2, 0, none⟩ = some (.slice (some ⟨b1, o1, none⟩) 11 cap1) := m1
        have m2' : 11 ≤ cap1 := m2
        have hfv := m5 K _ (forms_at K (by omega))
        obtain ⟨F, hF⟩ : ∃ F, F = formT K := ⟨_, rfl⟩
        have hFl : F.length ≤ 2 := by rw [hF]; exact form_len K (by omega)
        rw [← hF] at hfv
        obtain ⟨W4, c4, hcv, hb4, hbc⟩ := conv_bytes (txt F) wr
        have hsF : (txt F).size = F.length := txt_size F
        rw [hsF] at hcv
        have hbc2 : ∀ j f, F[j]? = some f → W4.cell? ⟨wr.heap.size, j, none⟩ = some (.int .u8 f.toNat) := fun j f hjf => by
          have hjl := (List.getElem?_eq_some_iff.1 hjf).1
          have h1 := hbc j (by rw [hsF]; exact hjl)
          rw [h1]
          exact congrArg (fun x => some (Value.int .u8 (x : Nat))) (txt_get hjf _)
        have HBC := Lib.hid hbc2
        have HF := Lib.hid hF
        have D4 := HD.out.keep hb4
        have hw4 := D4.words.1
        rw [show (t0 :: r).length = n from HN.out.symm] at hw4
        have hcut := Row.cut (k := 1) hw4 (by omega) (by omega)
        obtain ⟨g2, o2, he2, hrow⟩ := hcut
        simp only [Option.some.injEq, Addr.mk.injEq, and_true] at he2
        obtain ⟨rfl, rfl⟩ := he2
        have HROW := Lib.hid hrow
        have HD4 := Lib.hid D4
        have HW2 := Lib.hid D4.words.2
        have hcw : ((c : Int) - 1).toNat = c - 1 := by omega
        obtain ⟨SF, hSF⟩ : ∃ SF, SF = txt F := ⟨_, rfl⟩
        rw [← hSF] at hcv hfv
        have i0 : (0 : Int) ≤ (K : Int) := by omega
        have i1 : (K : Int) < 11 := by omega
        have hK0' : ¬ ((K : Int) = 0) := by omega
        have hb4s := hb4.size
        clear m5 m1 m2 hF hbc hbc2 D4 hrow hSF hsF hb4 hw4
        go_upto_region 13 with fail
        obtain ⟨o3, ho3⟩ : ∃ o3, o3 = (if c = 1 then ow else ow + 1 * 1) := ⟨_, rfl⟩
        have hae : (if c = 1 then some (⟨gw, ow, none⟩ : Addr) else some ⟨gw, ow + 1, none⟩) = some ⟨gw, o3, none⟩ := by
          rw [ho3]; split <;> rfl
        rw [hae]
        obtain ⟨m, hm1⟩ : ∃ m, m = n - 1 := ⟨_, rfl⟩
        have hm : m = r.length := by have := HN.out; omega
        obtain ⟨cc, hcc⟩ : ∃ cc, cc = c - 1 := ⟨_, rfl⟩
        have hP4 : PiecesAt w.heap.size W4 (.slice (some ⟨gw, o3, none⟩) m cc) r := by
          have h1 := HROW.out
          rw [← ho3, ← hm1, ← hcc] at h1
          exact ⟨by rw [← hm]; exact h1, fun x hx => HW2.out x hx⟩
        rw [← hm1, ← hcc]
        have HD5 := Lib.hid (HD4.out.word hP4)
        have HMM := Lib.hid hm
        have hFl2 : (F.length : Int) ≤ 2 := by omega
        clear hae ho3 hP4 HROW hm hm1 hcc hnc hcw
        clear q0 q1 q2 q3 q4 q5 q6 qf0 hw
        obtain ⟨⟨q0, q1, q2, q3, q4, q5, q6⟩, -⟩ := HD.out.seven
        go_wp2_with fail
        obtain ⟨W2, hW2⟩ : ∃ V, V = wr := ⟨_, rfl⟩
        subst hW2
        have HLT0 := Lib.hid (lt_of_block HD.out.q)
        go_loopw [7, 8, 9, 10, 53] (fun _ _ _ _ iv wx => ∃ (i : Nat) (q : Ask), iv = .int .i64 i ∧ i ≤ F.length ∧ Aside (DSt w wx gq q (.slice none 0 0) (.slice (some ⟨gw, o3, none⟩) m cc) r) ∧ Aside (docF r q i (F.drop i) = docF r ⟨K, [], [], 0, 0, 0, []⟩ 0 F) ∧ Aside (∀ j f, F[j]? = some f → wx.cell? ⟨W2.heap.size, j, none⟩ = some (.int .u8 f.toNat)) ∧ q.verb = K ∧ q.cells = [] ∧ W4.heap.size ≤ wx.heap.size) (fun _ _ _ _ iv _ => 3 - (intOf iv).toNat)
        case atStart =>
          exact ⟨0, _, rfl, by omega, HD5.out, rfl, HBC.out, rfl, rfl, Nat.le_refl _⟩
        case round =>
          obtain ⟨i, q, rfl, hi, HDX, HDF, HBX, hqv, hqc, hwx⟩ := hrel
          have HERR := Lib.hid (fun h : docF r ⟨K, [], [], 0, 0, 0, []⟩ 0 F = none => (ask_of HC.out HR.out HKK.out.symm).trans (askW_none (by rw [← doc_ask (by omega) hK10]; exact docA_none (HF.out ▸ h)) hK0))
          have HLT := Lib.hid (lt_of_block HDX.out.q)
          by_cases hstop : i = F.length ∨ F[i]? = some 99
          · have HFIN := Lib.hid (show docF r ⟨K, [], [], 0, 0, 0, []⟩ 0 F = some q by rw [← HDF.out]; exact doc_stop hi hstop)
            rcases hstop with hs | hs
            · subst hs
              have t1 : ¬ ((F.length : Int) < (F.length : Int)) := by omega
              go_upto_region 38 with fail
              obtain ⟨qv, qn, qo, qb, ql, qx, qc⟩ := q
              simp only at hqv hqc
              subst hqv hqc
              obtain ⟨⟨c0, c1, c2, c3, c4, c5, c6⟩, -⟩ := HDX.out.seven
              simp only at c0 c1 c2 c3 c4 c5 c6
              have HFK := Lib.hid (HF.out ▸ HFIN.out)
              have HASK := Lib.hid (fun (x : Option Ask) (h : docA K r = x) => (show askV K r = x by rw [← doc_ask (by omega) hK10]; exact h))
              have HASO := Lib.hid (ask_of HC.out HR.out HKK.out.symm)
              by_cases hK2 : K = 2
              · have k1 : (K : Int) = 2 := by omega
                have HK2 := Lib.hid hK2
                have hm0 : 0 < m := by rw [HMM.out]; exact doc_two HFK.out hK2
                have hcut := Row.cut (k := 1) (show Row wr 9 1 (.slice (some ⟨gw, o3, none⟩) m cc) m (encS r) by have h1 := HDX.out.words.1; rw [← HMM.out] at h1; exact h1) (by omega) hm0
                obtain ⟨g2, o2, he2, hrow⟩ := hcut
                simp only [Option.some.injEq, Addr.mk.injEq, and_true] at he2
                obtain ⟨rfl, rfl⟩ := he2
                have HROW := Lib.hid hrow
                have hm1 : (1 : Int) ≤ (m : Int) := by omega
                have hcw : ((cc : Int) - 1).toNat = cc - 1 := by omega
                have hmw : ((m : Int) - 1).toNat = m - 1 := by omega
                have hmcc : m ≤ cc := by obtain ⟨_, _, he, h1, _⟩ := HDX.out.words.1.form; simp only [Value.slice.injEq] at he; omega
                clear hrow hK2
                go_upto_region 43 with fail
                all_goals
                  have hP4 : ∃ o4, (cc = 1 → o4 = o3) ∧ (¬ cc = 1 → o4 = o3 + 1) ∧ PiecesAt w.heap.size wr (.slice (some ⟨gw, o4, none⟩) (m - 1) (cc - 1)) r.tail := by
                    refine ⟨if cc = 1 then o3 else o3 + 1 * 1, fun e => if_pos e, fun e => (if_neg e).trans (by omega), ⟨?_, fun x hx => HDX.out.words.2 x hx⟩⟩
                    have h1 := HROW.out
                    have h2 : (encS r).drop (1 * 1) = encS r.tail := by cases r <;> rfl
                    have h3 : r.tail.length = m - 1 := by rw [List.length_tail, HMM.out]
                    rw [h2] at h1
                    rw [h3]
                    exact h1
                  obtain ⟨o4, ho4a, ho4b, hP4⟩ := hP4
                  first
                  | rw [← ho4a ‹cc = 1›]
                  | rw [← ho4b ‹¬ cc = 1›]
                  obtain ⟨m1, hm1e⟩ : ∃ x, x = m - 1 := ⟨_, rfl⟩
                  obtain ⟨cc1, hcc1⟩ : ∃ x, x = cc - 1 := ⟨_, rfl⟩
                  rw [← hm1e, ← hcc1] at hP4
                  rw [← hm1e]
                  have HD6 := Lib.hid (HDX.out.word hP4)
                  have HM1 := Lib.hid (show m1 = r.tail.length by rw [List.length_tail, ← HMM.out]; exact hm1e)
                  have hm1b : m1 ≤ 10000 := by have h1 := HNL.out; have h2 := HMM.out; rw [List.length_cons] at h1; omega
                  clear ho4a ho4b hP4 hm1e hcc1 HROW hm1 hcw hmw hmcc
                  obtain ⟨W6, hW6⟩ : ∃ V, V = wr := ⟨_, rfl⟩
                  subst hW6
                  go_loopw [12, 13, 14, 15, 16, 17, 149] (fun _ _ _ _ _ _ iv wx => ∃ (k : Nat) (zs : List (Int × Int)) (cv : Value), iv = .int .i64 k ∧ k ≤ m1 ∧ Aside (DSt w wx gq ⟨K, qn, qo, qb, ql, qx, zs⟩ cv (.slice (some ⟨gw, o4, none⟩) m1 cc1) r.tail) ∧ Aside (CellsAt w.heap.size wx cv zs) ∧ Aside (zs = (r.tail.take k).map cellV) ∧ Aside ((r.tail.take k).all cellOk = true)) (fun _ _ _ _ _ _ iv _ => m1 - (intOf iv).toNat)
                  case atStart =>
                    refine ⟨0, [], _, rfl, Nat.zero_le _, HD6.out, CellsAt.nil _ _, ?_, ?_⟩
                    · show [] = _
                      rfl
                    · show _ = true
                      rfl
                  case round =>
                    obtain ⟨k, zs, cv, rfl, hk, HDY, HCY, HZS, HOK⟩ := hrel
                    obtain ⟨va, vc, rfl, -⟩ := HCY.out.1.form
                    obtain ⟨nz, hnz⟩ : ∃ z, z = zs.length := ⟨_, rfl⟩
                    have HCZ := Lib.hid HCY.out
                    rw [← hnz] at HCZ HDY
                    have HNZ := Lib.hid hnz
                    have hnzb : nz ≤ 10000 := by have h1 := congrArg List.length HZS.out; rw [List.length_map, List.length_take] at h1; omega
                    clear hnz
                    obtain ⟨⟨c0, c1, c2, c3, c4, c5, c6⟩, cf⟩ := HDY.out.seven
                    have e6 := cf 6
                    clear cf
                    simp only at c0 c1 c2 c3 c4 c5 c6
                    have hwrs := HDY.out.below.size
                    by_cases hkm : k < m1
                    · obtain ⟨t, ht⟩ : ∃ t, r.tail[k]? = some t := ⟨r.tail[k]'(by rw [← HM1.out]; exact hkm), by simp⟩
                      have htl : t.length ≤ 6000 := HFT.out t (List.mem_cons_of_mem _ (List.mem_of_mem_tail (List.mem_of_getElem? ht)))
                      have hwd : wr.cell? ⟨gw, o4 + k, none⟩ = some (.string (txt t)) := word_at HDY.out.words.1 HM1.out ht
                      have HT := Lib.hid ht
                      have htk : r.tail.take (k + 1) = r.tail.take k ++ [t] := by rw [List.take_add_one, ht]; rfl
                      have HTK := Lib.hid htk
                      have HBAD := Lib.hid (fun h : cellOk t = false => HASO.out.trans (askW_none (HASK.out _ (docA_bad HFK.out HK2.out (all_false ht h))) hK0))
                      have HSP := Lib.hid (fun W => splitAt_any 44 t W (by omega))
                      obtain ⟨T, hT⟩ : ∃ T, T = txt t := ⟨_, rfl⟩
                      have hu8 : ((44 : UInt8).toNat) = 44 := rfl
                      rw [← hT, hu8, show ((44 : Nat) : Int) = 44 from rfl] at HSP
                      rw [← hT] at hwd
                      have i2 : (k : Int) < (m1 : Int) := by omega
                      have i3 : (0 : Int) ≤ (k : Int) := by omega
                      clear hT hu8 ht htk
                      go_wp2_with fail
                      with_reducible refine (HSP.out _).mono ?_
                      rintro e w7 ⟨v7, rfl, hb7, hp7⟩
                      have HD7 := Lib.hid (HDY.out.keep hb7)
                      have HC7 := Lib.hid (HCZ.out.below hb7)
                      have hs7 := hb7.size
                      obtain ⟨a7, c7, rfl, h71, h72, -⟩ := hp7.1.form
                      obtain ⟨n7, hn7⟩ : ∃ z, z = (splC 44 t).length := ⟨_, rfl⟩
                      rw [← hn7]
                      by_cases hl2 : n7 = 2
                      · obtain ⟨X, Y, hXY⟩ : ∃ X Y, splC 44 t = [X, Y] := two_of (by rw [← hn7, hl2])
                        have hpc := splC_piece 44 t
                        rw [hXY] at hp7 hpc
                        obtain ⟨g7, o7, rfl, hcl7, -, hgl7⟩ := hp7.1.cells (by simp)
                        have x7 : w7.cell? ⟨g7, o7, none⟩ = some (.string (txt X)) := hcl7 0 (by simp)
                        have y7 : w7.cell? ⟨g7, o7 + 1, none⟩ = some (.string (txt Y)) := hcl7 1 (by simp)
                        have hXl : X.length ≤ 6000 := Nat.le_trans (hpc X (by simp)) htl
                        have hYl : Y.length ≤ 6000 := Nat.le_trans (hpc Y (by simp)) htl
                        have HSX := Lib.hid (fun W => signed_any X W hXl)
                        have HSY := Lib.hid (fun W => signed_any Y W hYl)
                        rw [sign_same] at HSX HSY
                        unfold numA at HSX HSY
                        obtain ⟨x, hx⟩ : ∃ x, x = (if okS X = true then valS X else 0) := ⟨_, rfl⟩
                        obtain ⟨y, hy⟩ : ∃ y, y = (if okS Y = true then valS Y else 0) := ⟨_, rfl⟩
                        obtain ⟨BX, hBX⟩ : ∃ b, b = okS X := ⟨_, rfl⟩
                        obtain ⟨BY, hBY⟩ : ∃ b, b = okS Y := ⟨_, rfl⟩
                        have hcok : cellOk t = (BX && BY) := by unfold cellOk; rw [hXY, hBX, hBY]
                        have hcv : BX = true → BY = true → cellV t = (x, y) := fun h1 h2 => by unfold cellV; rw [hXY, hx, hy, if_pos (by rw [← hBX]; exact h1), if_pos (by rw [← hBY]; exact h2)]
                        rw [← hx, ← hBX] at HSX
                        rw [← hy, ← hBY] at HSY
                        obtain ⟨SX, hSX⟩ : ∃ s, s = txt X := ⟨_, rfl⟩
                        obtain ⟨SY, hSY⟩ : ∃ s, s = txt Y := ⟨_, rfl⟩
                        rw [← hSX] at HSX x7
                        rw [← hSY] at HSY y7
                        have HCOK := Lib.hid hcok
                        have HCVV := Lib.hid hcv
                        clear hp7 hpc hcl7 hx hy hBX hBY hSX hSY hcok hcv hXY hn7 h71 h72 hb7 hwd c0 c1 c2 c3 c4 c5 c6 e6
                        subst hl2
                        go_wp2_with fail
                        with_reducible refine (HSX.out _).mono ?_
                        rintro e w8 ⟨rfl, hb8⟩
                        have HD8 := Lib.hid (HD7.out.keep hb8)
                        have HC8 := Lib.hid (HC7.out.below hb8)
                        have hs8 := hb8.size
                        have y8 : w8.cell? ⟨g7, o7 + 1, none⟩ = some (.string SY) := (hb8.cell (p := ⟨g7, o7 + 1, none⟩) hgl7).trans y7
                        clear hb8 x7 y7
                        go_wp2_with fail
                        with_reducible refine (HSY.out _).mono ?_
                        rintro e w9 ⟨rfl, hb9⟩
                        have HD9 := Lib.hid (HD8.out.keep hb9)
                        have HC9 := Lib.hid (HC8.out.below hb9)
                        have hs9 := hb9.size
                        clear hb9 y8
                        obtain ⟨⟨z0, z1, z2, z3, z4, z5, z6⟩, zf⟩ := Go.Proofs.YtdmamecfmfhlmaaGreatDoor.seven (show w9.heap[w.heap.size]? = some (.cells #[_, _, _, _, _, _, _] _ _) from HD9.out.res)
                        have f0 := zf 0; have f1 := zf 1; have f2 := zf 2; have f3 := zf 3; have f4 := zf 4; have f5 := zf 5; have f6 := zf 6
                        clear zf
                        cases BX with
                        | false =>
                          have HX := Lib.hid (HBAD.out (by rw [HCOK.out]; rfl))
                          go_wp2_with fail
                          obtain ⟨p0, p1, p2, p3, p4, p5, p6⟩ := HD9.out.told (.int .i64 0) (.string ⟨#[]⟩) (.string ⟨#[]⟩) (.int .i64 0) (.int .i64 0) (.int .i64 0) (.slice none 0 0)
                          simp only [set7] at p0 p1 p2 p3 p4 p5 p6
                          exact bodyPost_ret (v := .tuple #[.agg #[.int .i64 0, .string ⟨#[]⟩, .string ⟨#[]⟩, .int .i64 0, .int .i64 0, .int .i64 0, .slice none 0 0], .int .i64 2]) (by simp [results, Tryz.results14, go_sem, p0, p1, p2, p3, p4, p5, p6]) rfl (HD9.out.no (HX.out))
                        | true =>
                          cases BY with
                          | false =>
                            have HX := Lib.hid (HBAD.out (by rw [HCOK.out]; rfl))
                            go_wp2_with fail
                            obtain ⟨p0, p1, p2, p3, p4, p5, p6⟩ := HD9.out.told (.int .i64 0) (.string ⟨#[]⟩) (.string ⟨#[]⟩) (.int .i64 0) (.int .i64 0) (.int .i64 0) (.slice none 0 0)
                            simp only [set7] at p0 p1 p2 p3 p4 p5 p6
                            exact bodyPost_ret (v := .tuple #[.agg #[.int .i64 0, .string ⟨#[]⟩, .string ⟨#[]⟩, .int .i64 0, .int .i64 0, .int .i64 0, .slice none 0 0], .int .i64 2]) (by simp [results, Tryz.results14, go_sem, p0, p1, p2, p3, p4, p5, p6]) rfl (HD9.out.no (HX.out))
                          | true =>
                            obtain ⟨i0, hi9, hz0, hz1, hz2⟩ := info_parts infoCellR
                            obtain ⟨⟨c0, c1, c2, c3, c4, c5, c6⟩, cf⟩ := HD9.out.seven
                            have e6 := cf 6
                            have HQ9 := Lib.hid (lt_of_block HD9.out.q)
                            clear c0 c1 c2 c3 c4 c5 cf z0 z1 z2 z3 z4 z5 z6 f0 f1 f2 f3 f4 f5 f6
                            have hbA : Below w9.heap.size w9 (w9.alloc (.cells #[.int .i64 x, .int .i64 y] 35 (0, 0))) := (Below.refl _ _).alloc (Nat.le_refl _) _
                            have HRW := Lib.hid (show Row (w9.alloc (.cells #[.int .i64 x, .int .i64 y] 35 (0, 0))) 35 2 (.slice va nz vc) nz (zs.flatMap encCell) by have h1 := (HC9.out.below hbA).1; rw [← HNZ.out] at h1; exact h1)
                            have HNE := Lib.hid (show some gq ≠ (Value.slice va nz vc).ownBlock from fun e => HC9.out.1.ne_type HD9.out.q (by decide) e.symm)
                            have HBA := Lib.hid hbA
                            clear hbA
                            have hq10 : (w9.alloc (.cells #[.int .i64 x, .int .i64 y] 35 (0, 0))).cell? ⟨gq, 6, none⟩ = some (.slice va nz vc) := (HBA.out.cell (p := ⟨gq, 6, none⟩) HQ9.out).trans c6
                            have hq11 : (w9.alloc (.cells #[.int .i64 x, .int .i64 y] 35 (0, 0))).frozen? ⟨gq, 6, none⟩ = false := (World.frozen?_of_block (HBA.out.block gq HQ9.out)).trans e6
                            have HQ10 := Lib.hid hq10
                            have HQ11 := Lib.hid hq11
                            clear hq10 hq11
                            go_wp2_with ((at_builtin; go_loud (refine wpList_append_row _ rfl (.tmp 181) (.tmp 185) 24 rfl 35 i0 _ 2 16 Tryz.underlying24 hi9 hz0 hz1 hz2 rfl (by omega) (.slice va nz vc) nz (zs.flatMap encCell) rfl HRW.out ⟨w9.heap.size, 0, none⟩ 1 1 [.int .i64 x, .int .i64 y] rfl rfl (news_alloc w9 _ _ rfl) (by simp [Value.oneCell']) (by omega) (by unfold maxLen; omega) (by omega) _ rfl ?_; intro g6 off cap w10 hrow6 hg6 hat6; have d1 : w10.cell? ⟨gq, 6, none⟩ = some (.slice va nz vc) := (hg6.cell_far (a := ⟨gq, 6, none⟩) (by have := HQ9.out; simp; omega) HNE.out).trans HQ10.out; have d2 : w10.frozen? ⟨gq, 6, none⟩ = false := (hg6.frozen_far (a := ⟨gq, 6, none⟩) (by have := HQ9.out; simp; omega) HNE.out).trans HQ11.out)))
                            have hgN : w.heap.size ≤ g6 := by
                              rcases hat6 with h | h
                              · exact HC9.out.2 _ h
                              · rw [h]; simp; omega
                            have hgq : g6 ≠ gq := by
                              rcases hat6 with h | h
                              · exact fun e => HNE.out (by rw [← e]; exact h.symm)
                              · have h2 := HQ9.out; rw [h]; simp; omega
                            have D10 := (HD9.out.keep HBA.out).grown (HC9.out.below HBA.out) (Nat.le_refl _) hg6
                            refine ⟨⟨k + 1, zs ++ [(x, y)], _, by go_num, by omega, DSt.store (q' := ⟨K, qn, qo, qb, ql, qx, zs ++ [(x, y)]⟩) (cv' := .slice (some ⟨g6, off, none⟩) (nz + 1) cap) D10 6 _ rfl, ⟨?_, ?_⟩, ?_, ?_⟩, by simp [intOf]; omega⟩
                            · rw [List.length_append, List.flatMap_append, ← HNZ.out]
                              exact Row.keep (show Row w10 35 2 (.slice (some ⟨g6, off, none⟩) (nz + 1) cap) (nz + 1) (zs.flatMap encCell ++ [.int .i64 x, .int .i64 y]) from hrow6) fun q hq => by
                                simp only [Value.ownBlock, Option.some.injEq] at hq
                                exact Below.heap_setCell _ _ _ _ (by rw [← hq]; exact hgq)
                            · intro q hq
                              simp only [Value.ownBlock, Option.some.injEq] at hq
                              rw [← hq]; exact hgN
                            · show _ = _
                              rw [HTK.out, List.map_append, ← HZS.out, List.map_singleton, HCVV.out trivial trivial]
                            · show _ = true
                              rw [HTK.out, List.all_append, HOK.out, List.all_cons, HCOK.out]; rfl
                      · have HX := Lib.hid (HBAD.out (cellOk_not2 (by rw [← hn7]; exact hl2)))
                        obtain ⟨⟨z0, z1, z2, z3, z4, z5, z6⟩, zf⟩ := Go.Proofs.YtdmamecfmfhlmaaGreatDoor.seven (show w7.heap[w.heap.size]? = some (.cells #[_, _, _, _, _, _, _] _ _) from HD7.out.res)
                        have f0 := zf 0; have f1 := zf 1; have f2 := zf 2; have f3 := zf 3; have f4 := zf 4; have f5 := zf 5; have f6 := zf 6
                        clear zf
                        have k7 : ((n7 : Int) == 2) = false := by rw [beq_eq_false_iff_ne]; omega
                        have k8 : ¬ ((n7 : Int) = 2) := by omega
                        go_wp2_with fail
                        obtain ⟨p0, p1, p2, p3, p4, p5, p6⟩ := HD7.out.told (.int .i64 0) (.string ⟨#[]⟩) (.string ⟨#[]⟩) (.int .i64 0) (.int .i64 0) (.int .i64 0) (.slice none 0 0)
                        simp only [set7] at p0 p1 p2 p3 p4 p5 p6
                        exact bodyPost_ret (v := .tuple #[.agg #[.int .i64 0, .string ⟨#[]⟩, .string ⟨#[]⟩, .int .i64 0, .int .i64 0, .int .i64 0, .slice none 0 0], .int .i64 2]) (by simp [results, Tryz.results14, go_sem, p0, p1, p2, p3, p4, p5, p6]) rfl (HD7.out.no (HX.out))
                    · obtain rfl : k = m1 := by omega
                      have hall : r.tail.take k = r.tail := by rw [HM1.out, List.take_length]
                      have HX := Lib.hid (HASO.out.trans (askW_some (HASK.out _ (docA_set HFK.out HK2.out (by have h1 := HOK.out; rw [hall] at h1; exact h1))) hK0))
                      have HZ2 := Lib.hid (show zs = r.tail.map cellV by have h1 := HZS.out; rw [hall] at h1; exact h1)
                      clear hall
                      obtain ⟨⟨z0, z1, z2, z3, z4, z5, z6⟩, zf⟩ := Go.Proofs.YtdmamecfmfhlmaaGreatDoor.seven (show wr.heap[w.heap.size]? = some (.cells #[_, _, _, _, _, _, _] _ _) from HDY.out.res)
                      have f0 := zf 0; have f1 := zf 1; have f2 := zf 2; have f3 := zf 3; have f4 := zf 4; have f5 := zf 5; have f6 := zf 6
                      clear zf
                      go_wp2_with fail
                      obtain ⟨p0, p1, p2, p3, p4, p5, p6⟩ := HDY.out.told (.int .i64 2) (.string (txt qn)) (.string (txt qo)) (.int .i64 qb) (.int .i64 ql) (.int .i64 qx) (.slice va nz vc)
                      simp only [set7] at p0 p1 p2 p3 p4 p5 p6
                      have hxx : askF C = (0, (⟨K, qn, qo, qb, ql, qx, zs⟩ : Ask)) := by rw [HX.out, HZ2.out]
                      have hR := HDY.out.ok hxx HCZ.out
                      simp only [k1] at hR
                      exact bodyPost_ret (v := .tuple #[.agg #[.int .i64 2, .string (txt qn), .string (txt qo), .int .i64 qb, .int .i64 ql, .int .i64 qx, .slice va nz vc], .int .i64 0]) (by simp [results, Tryz.results14, go_sem, p0, p1, p2, p3, p4, p5, p6]) rfl hR
              · have k1 : ¬ ((K : Int) = 2) := by omega
                have k2 : ((K : Int) == 2) = false := by rw [beq_eq_false_iff_ne]; omega
                have HK2 := Lib.hid hK2
                obtain ⟨b2, o2, cap2, u1, u2, u3, u4, u5⟩ := HFM.out.on (HDX.out.below.mono HBB.out)
                have u1' : wr.cell? ⟨2, 0, none⟩ = some (.slice (some ⟨b2, o2, none⟩) 11 cap2) := u1
                have u2' : 11 ≤ cap2 := u2
                have hfv2 := u5 K _ (forms_at K (by omega))
                rw [← HF.out] at hfv2
                obtain ⟨SF2, hSF2⟩ : ∃ s, s = txt F := ⟨_, rfl⟩
                have hs2 : SF2.size = F.length := by rw [hSF2, txt_size]
                rw [← hSF2] at hfv2
                clear u5 u1 u2 hSF2 hK2
                obtain ⟨⟨z0, z1, z2, z3, z4, z5, z6⟩, zf⟩ := Go.Proofs.YtdmamecfmfhlmaaGreatDoor.seven (show wr.heap[w.heap.size]? = some (.cells #[_, _, _, _, _, _, _] _ _) from HDX.out.res)
                have f0 := zf 0; have f1 := zf 1; have f2 := zf 2; have f3 := zf 3; have f4 := zf 4; have f5 := zf 5; have f6 := zf 6
                clear zf
                by_cases hmF : m = F.length
                · have HX := Lib.hid (HASO.out.trans (askW_some (HASK.out _ (docA_ok HFK.out HK2.out (by rw [← HMM.out, hmF, HF.out]))) hK0))
                  have k3 : ((m : Int) == (F.length : Int)) = true := by rw [beq_iff_eq]; omega
                  have k4 : (m : Int) = (F.length : Int) := by omega
                  go_wp2_with fail
                  obtain ⟨p0, p1, p2, p3, p4, p5, p6⟩ := HDX.out.told (.int .i64 K) (.string (txt qn)) (.string (txt qo)) (.int .i64 qb) (.int .i64 ql) (.int .i64 qx) (.slice none 0 0)
                  simp only [set7] at p0 p1 p2 p3 p4 p5 p6
                  exact bodyPost_ret (v := .tuple #[.agg #[.int .i64 K, .string (txt qn), .string (txt qo), .int .i64 qb, .int .i64 ql, .int .i64 qx, .slice none 0 0], .int .i64 0]) (by simp [results, Tryz.results14, go_sem, p0, p1, p2, p3, p4, p5, p6]) rfl (HDX.out.ok HX.out (CellsAt.nil _ _))
                · have HX := Lib.hid (HASO.out.trans (askW_none (HASK.out _ (docA_len HFK.out HK2.out (by rw [← HMM.out, ← HF.out]; exact hmF))) hK0))
                  have k3 : ((m : Int) == (F.length : Int)) = false := by rw [beq_eq_false_iff_ne]; omega
                  have k4 : ¬ ((m : Int) = (F.length : Int)) := by omega
                  go_wp2_with fail
                  obtain ⟨p0, p1, p2, p3, p4, p5, p6⟩ := HDX.out.told (.int .i64 0) (.string ⟨#[]⟩) (.string ⟨#[]⟩) (.int .i64 0) (.int .i64 0) (.int .i64 0) (.slice none 0 0)
                  simp only [set7] at p0 p1 p2 p3 p4 p5 p6
                  exact bodyPost_ret (v := .tuple #[.agg #[.int .i64 0, .string ⟨#[]⟩, .string ⟨#[]⟩, .int .i64 0, .int .i64 0, .int .i64 0, .slice none 0 0], .int .i64 2]) (by simp [results, Tryz.results14, go_sem, p0, p1, p2, p3, p4, p5, p6]) rfl (HDX.out.no (HX.out))
            · have t2 : i < F.length := (List.getElem?_eq_some_iff.1 hs).1
              have t3 : (i : Int) < (F.length : Int) := by omega
              have t4 : (0 : Int) ≤ (i : Int) := by omega
              have t5 : wr.cell? ⟨W2.heap.size, i, none⟩ = some (.int .u8 99) := HBX.out i 99 hs
              clear hs
              go_upto_region 38 with fail
              obtain ⟨qv, qn, qo, qb, ql, qx, qc⟩ := q
              simp only at hqv hqc
              subst hqv hqc
              obtain ⟨⟨c0, c1, c2, c3, c4, c5, c6⟩, -⟩ := HDX.out.seven
              simp only at c0 c1 c2 c3 c4 c5 c6
              have HFK := Lib.hid (HF.out ▸ HFIN.out)
              have HASK := Lib.hid (fun (x : Option Ask) (h : docA K r = x) => (show askV K r = x by rw [← doc_ask (by omega) hK10]; exact h))
              have HASO := Lib.hid (ask_of HC.out HR.out HKK.out.symm)
              by_cases hK2 : K = 2
              · have k1 : (K : Int) = 2 := by omega
                have HK2 := Lib.hid hK2
                have hm0 : 0 < m := by rw [HMM.out]; exact doc_two HFK.out hK2
                have hcut := Row.cut (k := 1) (show Row wr 9 1 (.slice (some ⟨gw, o3, none⟩) m cc) m (encS r) by have h1 := HDX.out.words.1; rw [← HMM.out] at h1; exact h1) (by omega) hm0
                obtain ⟨g2, o2, he2, hrow⟩ := hcut
                simp only [Option.some.injEq, Addr.mk.injEq, and_true] at he2
                obtain ⟨rfl, rfl⟩ := he2
                have HROW := Lib.hid hrow
                have hm1 : (1 : Int) ≤ (m : Int) := by omega
                have hcw : ((cc : Int) - 1).toNat = cc - 1 := by omega
                have hmw : ((m : Int) - 1).toNat = m - 1 := by omega
                have hmcc : m ≤ cc := by obtain ⟨_, _, he, h1, _⟩ := HDX.out.words.1.form; simp only [Value.slice.injEq] at he; omega
                clear hrow hK2
                go_upto_region 43 with fail
                all_goals
                  have hP4 : ∃ o4, (cc = 1 → o4 = o3) ∧ (¬ cc = 1 → o4 = o3 + 1) ∧ PiecesAt w.heap.size wr (.slice (some ⟨gw, o4, none⟩) (m - 1) (cc - 1)) r.tail := by
                    refine ⟨if cc = 1 then o3 else o3 + 1 * 1, fun e => if_pos e, fun e => (if_neg e).trans (by omega), ⟨?_, fun x hx => HDX.out.words.2 x hx⟩⟩
                    have h1 := HROW.out
                    have h2 : (encS r).drop (1 * 1) = encS r.tail := by cases r <;> rfl
                    have h3 : r.tail.length = m - 1 := by rw [List.length_tail, HMM.out]
                    rw [h2] at h1
                    rw [h3]
                    exact h1
                  obtain ⟨o4, ho4a, ho4b, hP4⟩ := hP4
                  first
                  | rw [← ho4a ‹cc = 1›]
                  | rw [← ho4b ‹¬ cc = 1›]
                  obtain ⟨m1, hm1e⟩ : ∃ x, x = m - 1 := ⟨_, rfl⟩
                  obtain ⟨cc1, hcc1⟩ : ∃ x, x = cc - 1 := ⟨_, rfl⟩
                  rw [← hm1e, ← hcc1] at hP4
                  rw [← hm1e]
                  have HD6 := Lib.hid (HDX.out.word hP4)
                  have HM1 := Lib.hid (show m1 = r.tail.length by rw [List.length_tail, ← HMM.out]; exact hm1e)
                  have hm1b : m1 ≤ 10000 := by have h1 := HNL.out; have h2 := HMM.out; rw [List.length_cons] at h1; omega
                  clear ho4a ho4b hP4 hm1e hcc1 HROW hm1 hcw hmw hmcc
                  obtain ⟨W6, hW6⟩ : ∃ V, V = wr := ⟨_, rfl⟩
                  subst hW6
                  go_loopw [12, 13, 14, 15, 16, 17, 149] (fun _ _ _ _ _ _ iv wx => ∃ (k : Nat) (zs : List (Int × Int)) (cv : Value), iv = .int .i64 k ∧ k ≤ m1 ∧ Aside (DSt w wx gq ⟨K, qn, qo, qb, ql, qx, zs⟩ cv (.slice (some ⟨gw, o4, none⟩) m1 cc1) r.tail) ∧ Aside (CellsAt w.heap.size wx cv zs) ∧ Aside (zs = (r.tail.take k).map cellV) ∧ Aside ((r.tail.take k).all cellOk = true)) (fun _ _ _ _ _ _ iv _ => m1 - (intOf iv).toNat)
                  case atStart =>
                    refine ⟨0, [], _, rfl, Nat.zero_le _, HD6.out, CellsAt.nil _ _, ?_, ?_⟩
                    · show [] = _
                      rfl
                    · show _ = true
                      rfl
                  case round =>
                    obtain ⟨k, zs, cv, rfl, hk, HDY, HCY, HZS, HOK⟩ := hrel
                    obtain ⟨va, vc, rfl, -⟩ := HCY.out.1.form
                    obtain ⟨nz, hnz⟩ : ∃ z, z = zs.length := ⟨_, rfl⟩
                    have HCZ := Lib.hid HCY.out
                    rw [← hnz] at HCZ HDY
                    have HNZ := Lib.hid hnz
                    have hnzb : nz ≤ 10000 := by have h1 := congrArg List.length HZS.out; rw [List.length_map, List.length_take] at h1; omega
                    clear hnz
                    obtain ⟨⟨c0, c1, c2, c3, c4, c5, c6⟩, cf⟩ := HDY.out.seven
                    have e6 := cf 6
                    clear cf
                    simp only at c0 c1 c2 c3 c4 c5 c6
                    have hwrs := HDY.out.below.size
                    by_cases hkm : k < m1
                    · obtain ⟨t, ht⟩ : ∃ t, r.tail[k]? = some t := ⟨r.tail[k]'(by rw [← HM1.out]; exact hkm), by simp⟩
                      have htl : t.length ≤ 6000 := HFT.out t (List.mem_cons_of_mem _ (List.mem_of_mem_tail (List.mem_of_getElem? ht)))
                      have hwd : wr.cell? ⟨gw, o4 + k, none⟩ = some (.string (txt t)) := word_at HDY.out.words.1 HM1.out ht
                      have HT := Lib.hid ht
                      have htk : r.tail.take (k + 1) = r.tail.take k ++ [t] := by rw [List.take_add_one, ht]; rfl
                      have HTK := Lib.hid htk
                      have HBAD := Lib.hid (fun h : cellOk t = false => HASO.out.trans (askW_none (HASK.out _ (docA_bad HFK.out HK2.out (all_false ht h))) hK0))
                      have HSP := Lib.hid (fun W => splitAt_any 44 t W (by omega))
                      obtain ⟨T, hT⟩ : ∃ T, T = txt t := ⟨_, rfl⟩
                      have hu8 : ((44 : UInt8).toNat) = 44 := rfl
                      rw [← hT, hu8, show ((44 : Nat) : Int) = 44 from rfl] at HSP
                      rw [← hT] at hwd
                      have i2 : (k : Int) < (m1 : Int) := by omega
                      have i3 : (0 : Int) ≤ (k : Int) := by omega
                      clear hT hu8 ht htk
                      go_wp2_with fail
                      with_reducible refine (HSP.out _).mono ?_
                      rintro e w7 ⟨v7, rfl, hb7, hp7⟩
                      have HD7 := Lib.hid (HDY.out.keep hb7)
                      have HC7 := Lib.hid (HCZ.out.below hb7)
                      have hs7 := hb7.size
                      obtain ⟨a7, c7, rfl, h71, h72, -⟩ := hp7.1.form
                      obtain ⟨n7, hn7⟩ : ∃ z, z = (splC 44 t).length := ⟨_, rfl⟩
                      rw [← hn7]
                      by_cases hl2 : n7 = 2
                      · obtain ⟨X, Y, hXY⟩ : ∃ X Y, splC 44 t = [X, Y] := two_of (by rw [← hn7, hl2])
                        have hpc := splC_piece 44 t
                        rw [hXY] at hp7 hpc
                        obtain ⟨g7, o7, rfl, hcl7, -, hgl7⟩ := hp7.1.cells (by simp)
                        have x7 : w7.cell? ⟨g7, o7, none⟩ = some (.string (txt X)) := hcl7 0 (by simp)
                        have y7 : w7.cell? ⟨g7, o7 + 1, none⟩ = some (.string (txt Y)) := hcl7 1 (by simp)
                        have hXl : X.length ≤ 6000 := Nat.le_trans (hpc X (by simp)) htl
                        have hYl : Y.length ≤ 6000 := Nat.le_trans (hpc Y (by simp)) htl
                        have HSX := Lib.hid (fun W => signed_any X W hXl)
                        have HSY := Lib.hid (fun W => signed_any Y W hYl)
                        rw [sign_same] at HSX HSY
                        unfold numA at HSX HSY
                        obtain ⟨x, hx⟩ : ∃ x, x = (if okS X = true then valS X else 0) := ⟨_, rfl⟩
                        obtain ⟨y, hy⟩ : ∃ y, y = (if okS Y = true then valS Y else 0) := ⟨_, rfl⟩
                        obtain ⟨BX, hBX⟩ : ∃ b, b = okS X := ⟨_, rfl⟩
                        obtain ⟨BY, hBY⟩ : ∃ b, b = okS Y := ⟨_, rfl⟩
                        have hcok : cellOk t = (BX && BY) := by unfold cellOk; rw [hXY, hBX, hBY]
                        have hcv : BX = true → BY = true → cellV t = (x, y) := fun h1 h2 => by unfold cellV; rw [hXY, hx, hy, if_pos (by rw [← hBX]; exact h1), if_pos (by rw [← hBY]; exact h2)]
                        rw [← hx, ← hBX] at HSX
                        rw [← hy, ← hBY] at HSY
                        obtain ⟨SX, hSX⟩ : ∃ s, s = txt X := ⟨_, rfl⟩
                        obtain ⟨SY, hSY⟩ : ∃ s, s = txt Y := ⟨_, rfl⟩
                        rw [← hSX] at HSX x7
                        rw [← hSY] at HSY y7
                        have HCOK := Lib.hid hcok
                        have HCVV := Lib.hid hcv
                        clear hp7 hpc hcl7 hx hy hBX hBY hSX hSY hcok hcv hXY hn7 h71 h72 hb7 hwd c0 c1 c2 c3 c4 c5 c6 e6
                        subst hl2
                        go_wp2_with fail
                        with_reducible refine (HSX.out _).mono ?_
                        rintro e w8 ⟨rfl, hb8⟩
                        have HD8 := Lib.hid (HD7.out.keep hb8)
                        have HC8 := Lib.hid (HC7.out.below hb8)
                        have hs8 := hb8.size
                        have y8 : w8.cell? ⟨g7, o7 + 1, none⟩ = some (.string SY) := (hb8.cell (p := ⟨g7, o7 + 1, none⟩) hgl7).trans y7
                        clear hb8 x7 y7
                        go_wp2_with fail
                        with_reducible refine (HSY.out _).mono ?_
                        rintro e w9 ⟨rfl, hb9⟩
                        have HD9 := Lib.hid (HD8.out.keep hb9)
                        have HC9 := Lib.hid (HC8.out.below hb9)
                        have hs9 := hb9.size
                        clear hb9 y8
                        obtain ⟨⟨z0, z1, z2, z3, z4, z5, z6⟩, zf⟩ := Go.Proofs.YtdmamecfmfhlmaaGreatDoor.seven (show w9.heap[w.heap.size]? = some (.cells #[_, _, _, _, _, _, _] _ _) from HD9.out.res)
                        have f0 := zf 0; have f1 := zf 1; have f2 := zf 2; have f3 := zf 3; have f4 := zf 4; have f5 := zf 5; have f6 := zf 6
                        clear zf
                        cases BX with
                        | false =>
                          have HX := Lib.hid (HBAD.out (by rw [HCOK.out]; rfl))
                          go_wp2_with fail
                          obtain ⟨p0, p1, p2, p3, p4, p5, p6⟩ := HD9.out.told (.int .i64 0) (.string ⟨#[]⟩) (.string ⟨#[]⟩) (.int .i64 0) (.int .i64 0) (.int .i64 0) (.slice none 0 0)
                          simp only [set7] at p0 p1 p2 p3 p4 p5 p6
                          exact bodyPost_ret (v := .tuple #[.agg #[.int .i64 0, .string ⟨#[]⟩, .string ⟨#[]⟩, .int .i64 0, .int .i64 0, .int .i64 0, .slice none 0 0], .int .i64 2]) (by simp [results, Tryz.results14, go_sem, p0, p1, p2, p3, p4, p5, p6]) rfl (HD9.out.no (HX.out))
                        | true =>
                          cases BY with
                          | false =>
                            have HX := Lib.hid (HBAD.out (by rw [HCOK.out]; rfl))
                            go_wp2_with fail
                            obtain ⟨p0, p1, p2, p3, p4, p5, p6⟩ := HD9.out.told (.int .i64 0) (.string ⟨#[]⟩) (.string ⟨#[]⟩) (.int .i64 0) (.int .i64 0) (.int .i64 0) (.slice none 0 0)
                            simp only [set7] at p0 p1 p2 p3 p4 p5 p6
                            exact bodyPost_ret (v := .tuple #[.agg #[.int .i64 0, .string ⟨#[]⟩, .string ⟨#[]⟩, .int .i64 0, .int .i64 0, .int .i64 0, .slice none 0 0], .int .i64 2]) (by simp [results, Tryz.results14, go_sem, p0, p1, p2, p3, p4, p5, p6]) rfl (HD9.out.no (HX.out))
                          | true =>
                            obtain ⟨i0, hi9, hz0, hz1, hz2⟩ := info_parts infoCellR
                            obtain ⟨⟨c0, c1, c2, c3, c4, c5, c6⟩, cf⟩ := HD9.out.seven
                            have e6 := cf 6
                            have HQ9 := Lib.hid (lt_of_block HD9.out.q)
                            clear c0 c1 c2 c3 c4 c5 cf z0 z1 z2 z3 z4 z5 z6 f0 f1 f2 f3 f4 f5 f6
                            have hbA : Below w9.heap.size w9 (w9.alloc (.cells #[.int .i64 x, .int .i64 y] 35 (0, 0))) := (Below.refl _ _).alloc (Nat.le_refl _) _
                            have HRW := Lib.hid (show Row (w9.alloc (.cells #[.int .i64 x, .int .i64 y] 35 (0, 0))) 35 2 (.slice va nz vc) nz (zs.flatMap encCell) by have h1 := (HC9.out.below hbA).1; rw [← HNZ.out] at h1; exact h1)
                            have HNE := Lib.hid (show some gq ≠ (Value.slice va nz vc).ownBlock from fun e => HC9.out.1.ne_type HD9.out.q (by decide) e.symm)
                            have HBA := Lib.hid hbA
                            clear hbA
                            have hq10 : (w9.alloc (.cells #[.int .i64 x, .int .i64 y] 35 (0, 0))).cell? ⟨gq, 6, none⟩ = some (.slice va nz vc) := (HBA.out.cell (p := ⟨gq, 6, none⟩) HQ9.out).trans c6
                            have hq11 : (w9.alloc (.cells #[.int .i64 x, .int .i64 y] 35 (0, 0))).frozen? ⟨gq, 6, none⟩ = false := (World.frozen?_of_block (HBA.out.block gq HQ9.out)).trans e6
                            have HQ10 := Lib.hid hq10
                            have HQ11 := Lib.hid hq11
                            clear hq10 hq11
                            go_wp2_with ((at_builtin; go_loud (refine wpList_append_row _ rfl (.tmp 181) (.tmp 185) 24 rfl 35 i0 _ 2 16 Tryz.underlying24 hi9 hz0 hz1 hz2 rfl (by omega) (.slice va nz vc) nz (zs.flatMap encCell) rfl HRW.out ⟨w9.heap.size, 0, none⟩ 1 1 [.int .i64 x, .int .i64 y] rfl rfl (news_alloc w9 _ _ rfl) (by simp [Value.oneCell']) (by omega) (by unfold maxLen; omega) (by omega) _ rfl ?_; intro g6 off cap w10 hrow6 hg6 hat6; have d1 : w10.cell? ⟨gq, 6, none⟩ = some (.slice va nz vc) := (hg6.cell_far (a := ⟨gq, 6, none⟩) (by have := HQ9.out; simp; omega) HNE.out).trans HQ10.out; have d2 : w10.frozen? ⟨gq, 6, none⟩ = false := (hg6.frozen_far (a := ⟨gq, 6, none⟩) (by have := HQ9.out; simp; omega) HNE.out).trans HQ11.out)))
                            have hgN : w.heap.size ≤ g6 := by
                              rcases hat6 with h | h
                              · exact HC9.out.2 _ h
                              · rw [h]; simp; omega
                            have hgq : g6 ≠ gq := by
                              rcases hat6 with h | h
                              · exact fun e => HNE.out (by rw [← e]; exact h.symm)
                              · have h2 := HQ9.out; rw [h]; simp; omega
                            have D10 := (HD9.out.keep HBA.out).grown (HC9.out.below HBA.out) (Nat.le_refl _) hg6
                            refine ⟨⟨k + 1, zs ++ [(x, y)], _, by go_num, by omega, DSt.store (q' := ⟨K, qn, qo, qb, ql, qx, zs ++ [(x, y)]⟩) (cv' := .slice (some ⟨g6, off, none⟩) (nz + 1) cap) D10 6 _ rfl, ⟨?_, ?_⟩, ?_, ?_⟩, by simp [intOf]; omega⟩
                            · rw [List.length_append, List.flatMap_append, ← HNZ.out]
                              exact Row.keep (show Row w10 35 2 (.slice (some ⟨g6, off, none⟩) (nz + 1) cap) (nz + 1) (zs.flatMap encCell ++ [.int .i64 x, .int .i64 y]) from hrow6) fun q hq => by
                                simp only [Value.ownBlock, Option.some.injEq] at hq
                                exact Below.heap_setCell _ _ _ _ (by rw [← hq]; exact hgq)
                            · intro q hq
                              simp only [Value.ownBlock, Option.some.injEq] at hq
                              rw [← hq]; exact hgN
                            · show _ = _
                              rw [HTK.out, List.map_append, ← HZS.out, List.map_singleton, HCVV.out trivial trivial]
                            · show _ = true
                              rw [HTK.out, List.all_append, HOK.out, List.all_cons, HCOK.out]; rfl
                      · have HX := Lib.hid (HBAD.out (cellOk_not2 (by rw [← hn7]; exact hl2)))
                        obtain ⟨⟨z0, z1, z2, z3, z4, z5, z6⟩, zf⟩ := Go.Proofs.YtdmamecfmfhlmaaGreatDoor.seven (show w7.heap[w.heap.size]? = some (.cells #[_, _, _, _, _, _, _] _ _) from HD7.out.res)
                        have f0 := zf 0; have f1 := zf 1; have f2 := zf 2; have f3 := zf 3; have f4 := zf 4; have f5 := zf 5; have f6 := zf 6
                        clear zf
                        have k7 : ((n7 : Int) == 2) = false := by rw [beq_eq_false_iff_ne]; omega
                        have k8 : ¬ ((n7 : Int) = 2) := by omega
                        go_wp2_with fail
                        obtain ⟨p0, p1, p2, p3, p4, p5, p6⟩ := HD7.out.told (.int .i64 0) (.string ⟨#[]⟩) (.string ⟨#[]⟩) (.int .i64 0) (.int .i64 0) (.int .i64 0) (.slice none 0 0)
                        simp only [set7] at p0 p1 p2 p3 p4 p5 p6
                        exact bodyPost_ret (v := .tuple #[.agg #[.int .i64 0, .string ⟨#[]⟩, .string ⟨#[]⟩, .int .i64 0, .int .i64 0, .int .i64 0, .slice none 0 0], .int .i64 2]) (by simp [results, Tryz.results14, go_sem, p0, p1, p2, p3, p4, p5, p6]) rfl (HD7.out.no (HX.out))
                    · obtain rfl : k = m1 := by omega
                      have hall : r.tail.take k = r.tail := by rw [HM1.out, List.take_length]
                      have HX := Lib.hid (HASO.out.trans (askW_some (HASK.out _ (docA_set HFK.out HK2.out (by have h1 := HOK.out; rw [hall] at h1; exact h1))) hK0))
                      have HZ2 := Lib.hid (show zs = r.tail.map cellV by have h1 := HZS.out; rw [hall] at h1; exact h1)
                      clear hall
                      obtain ⟨⟨z0, z1, z2, z3, z4, z5, z6⟩, zf⟩ := Go.Proofs.YtdmamecfmfhlmaaGreatDoor.seven (show wr.heap[w.heap.size]? = some (.cells #[_, _, _, _, _, _, _] _ _) from HDY.out.res)
                      have f0 := zf 0; have f1 := zf 1; have f2 := zf 2; have f3 := zf 3; have f4 := zf 4; have f5 := zf 5; have f6 := zf 6
                      clear zf
                      go_wp2_with fail
                      obtain ⟨p0, p1, p2, p3, p4, p5, p6⟩ := HDY.out.told (.int .i64 2) (.string (txt qn)) (.string (txt qo)) (.int .i64 qb) (.int .i64 ql) (.int .i64 qx) (.slice va nz vc)
                      simp only [set7] at p0 p1 p2 p3 p4 p5 p6
                      have hxx : askF C = (0, (⟨K, qn, qo, qb, ql, qx, zs⟩ : Ask)) := by rw [HX.out, HZ2.out]
                      have hR := HDY.out.ok hxx HCZ.out
                      simp only [k1] at hR
                      exact bodyPost_ret (v := .tuple #[.agg #[.int .i64 2, .string (txt qn), .string (txt qo), .int .i64 qb, .int .i64 ql, .int .i64 qx, .slice va nz vc], .int .i64 0]) (by simp [results, Tryz.results14, go_sem, p0, p1, p2, p3, p4, p5, p6]) rfl hR
              · have k1 : ¬ ((K : Int) = 2) := by omega
                have k2 : ((K : Int) == 2) = false := by rw [beq_eq_false_iff_ne]; omega
                have HK2 := Lib.hid hK2
                obtain ⟨b2, o2, cap2, u1, u2, u3, u4, u5⟩ := HFM.out.on (HDX.out.below.mono HBB.out)
                have u1' : wr.cell? ⟨2, 0, none⟩ = some (.slice (some ⟨b2, o2, none⟩) 11 cap2) := u1
                have u2' : 11 ≤ cap2 := u2
                have hfv2 := u5 K _ (forms_at K (by omega))
                rw [← HF.out] at hfv2
                obtain ⟨SF2, hSF2⟩ : ∃ s, s = txt F := ⟨_, rfl⟩
                have hs2 : SF2.size = F.length := by rw [hSF2, txt_size]
                rw [← hSF2] at hfv2
                clear u5 u1 u2 hSF2 hK2
                obtain ⟨⟨z0, z1, z2, z3, z4, z5, z6⟩, zf⟩ := Go.Proofs.YtdmamecfmfhlmaaGreatDoor.seven (show wr.heap[w.heap.size]? = some (.cells #[_, _, _, _, _, _, _] _ _) from HDX.out.res)
                have f0 := zf 0; have f1 := zf 1; have f2 := zf 2; have f3 := zf 3; have f4 := zf 4; have f5 := zf 5; have f6 := zf 6
                clear zf
                by_cases hmF : m = F.length
                · have HX := Lib.hid (HASO.out.trans (askW_some (HASK.out _ (docA_ok HFK.out HK2.out (by rw [← HMM.out, hmF, HF.out]))) hK0))
                  have k3 : ((m : Int) == (F.length : Int)) = true := by rw [beq_iff_eq]; omega
                  have k4 : (m : Int) = (F.length : Int) := by omega
                  go_wp2_with fail
                  obtain ⟨p0, p1, p2, p3, p4, p5, p6⟩ := HDX.out.told (.int .i64 K) (.string (txt qn)) (.string (txt qo)) (.int .i64 qb) (.int .i64 ql) (.int .i64 qx) (.slice none 0 0)
                  simp only [set7] at p0 p1 p2 p3 p4 p5 p6
                  exact bodyPost_ret (v := .tuple #[.agg #[.int .i64 K, .string (txt qn), .string (txt qo), .int .i64 qb, .int .i64 ql, .int .i64 qx, .slice none 0 0], .int .i64 0]) (by simp [results, Tryz.results14, go_sem, p0, p1, p2, p3, p4, p5, p6]) rfl (HDX.out.ok HX.out (CellsAt.nil _ _))
                · have HX := Lib.hid (HASO.out.trans (askW_none (HASK.out _ (docA_len HFK.out HK2.out (by rw [← HMM.out, ← HF.out]; exact hmF))) hK0))
                  have k3 : ((m : Int) == (F.length : Int)) = false := by rw [beq_eq_false_iff_ne]; omega
                  have k4 : ¬ ((m : Int) = (F.length : Int)) := by omega
                  go_wp2_with fail
                  obtain ⟨p0, p1, p2, p3, p4, p5, p6⟩ := HDX.out.told (.int .i64 0) (.string ⟨#[]⟩) (.string ⟨#[]⟩) (.int .i64 0) (.int .i64 0) (.int .i64 0) (.slice none 0 0)
                  simp only [set7] at p0 p1 p2 p3 p4 p5 p6
                  exact bodyPost_ret (v := .tuple #[.agg #[.int .i64 0, .string ⟨#[]⟩, .string ⟨#[]⟩, .int .i64 0, .int .i64 0, .int .i64 0, .slice none 0 0], .int .i64 2]) (by simp [results, Tryz.results14, go_sem, p0, p1, p2, p3, p4, p5, p6]) rfl (HDX.out.no (HX.out))
          · have hil : i < F.length := by omega
            obtain ⟨f, hf⟩ : ∃ f, F[i]? = some f := ⟨F[i], List.getElem?_eq_getElem hil⟩
            have hf99 : f ≠ 99 := fun e => hstop (.inr (by rw [hf, e]))
            have hfb := HBX.out i f hf
            have hdr : F.drop i = f :: F.drop (i + 1) := drop_at hf
            have HSTEP := Lib.hid HDF.out
            rw [hdr] at HSTEP
            have hf5 : f = 110 ∨ f = 112 ∨ f = 114 ∨ f = 100 := by
              have h5 := form_five K (by omega) f (by rw [← HF.out]; exact List.mem_of_getElem? hf)
              rcases h5 with h | h | h | h | h
              · exact .inl h
              · exact .inr (.inl h)
              · exact .inr (.inr (.inl h))
              · exact .inr (.inr (.inr h))
              · exact absurd h hf99
            have i2 : (i : Int) < (F.length : Int) := by omega
            have i3 : (0 : Int) ≤ (i : Int) := by omega
            have hwxs := HDX.out.below.size
            clear hdr hf hf99 hstop
            by_cases him : m ≤ i
            · have HX := Lib.hid (HERR.out (by rw [← HSTEP.out]; exact doc_out (by rw [← HMM.out]; exact him) (by rcases hf5 with rfl | rfl | rfl | rfl <;> decide)))
              have t6 : ¬ ((i : Int) < (m : Int)) := by omega
              have t7 : (m : Int) ≤ (i : Int) := by omega
              have t8 : decide ((m : Int) ≤ (i : Int)) = true := decide_eq_true t7
              obtain ⟨⟨z0, z1, z2, z3, z4, z5, z6⟩, zf⟩ := Go.Proofs.YtdmamecfmfhlmaaGreatDoor.seven (show wr.heap[w.heap.size]? = some (.cells #[_, _, _, _, _, _, _] _ _) from HDX.out.res)
              have f0 := zf 0; have f1 := zf 1; have f2 := zf 2; have f3 := zf 3; have f4 := zf 4; have f5 := zf 5; have f6 := zf 6
              clear zf
              rcases hf5 with rfl | rfl | rfl | rfl
              all_goals
                go_wp2_with fail
                obtain ⟨p0, p1, p2, p3, p4, p5, p6⟩ := HDX.out.told (.int .i64 0) (.string ⟨#[]⟩) (.string ⟨#[]⟩) (.int .i64 0) (.int .i64 0) (.int .i64 0) (.slice none 0 0)
                simp only [set7] at p0 p1 p2 p3 p4 p5 p6
                exact bodyPost_ret (v := .tuple #[.agg #[.int .i64 0, .string ⟨#[]⟩, .string ⟨#[]⟩, .int .i64 0, .int .i64 0, .int .i64 0, .slice none 0 0], .int .i64 2]) (by simp [results, Tryz.results14, go_sem, p0, p1, p2, p3, p4, p5, p6]) rfl (HDX.out.no (HX.out))
            · have him2 : i < m := by omega
              obtain ⟨t, ht⟩ : ∃ t, r[i]? = some t := ⟨r[i]'(by rw [← HMM.out]; exact him2), by simp⟩
              have htl : t.length ≤ 6000 := HFT.out t (List.mem_cons_of_mem _ (List.mem_of_getElem? ht))
              have hwd : wr.cell? ⟨gw, o3 + i, none⟩ = some (.string (txt t)) := word_at HDX.out.words.1 HMM.out ht
              have HT := Lib.hid ht
              obtain ⟨T, hT⟩ : ∃ T, T = txt t := ⟨_, rfl⟩
              rw [← hT] at hwd
              have HTT := Lib.hid hT
              have hsT : T.size ≤ 140737488351232 := by rw [hT, txt_size]; omega
              have hdT : T.data.toList = t := by rw [hT, txt_data]
              have t6 : (i : Int) < (m : Int) := by omega
              have t8 : decide ((m : Int) ≤ (i : Int)) = false := decide_eq_false (by omega)
              have HNM := Lib.hid (fun W => refNamed_any T W hsT)
              have HKY := Lib.hid (fun W => refKeyed_any T W hsT)
              rw [hdT] at HNM HKY
              obtain ⟨⟨c0, c1, c2, c3, c4, c5, c6⟩, cf⟩ := HDX.out.seven
              have e1 := cf 1; have e2 := cf 2; have e3 := cf 3; have e4 := cf 4; have e5 := cf 5
              clear hT hsT ht cf
              rcases hf5 with rfl | rfl | rfl | rfl
              · have hfb' : wr.cell? ⟨W2.heap.size, i, none⟩ = some (.int .u8 110) := hfb
                clear hfb
                go_wp2_with fail
                refine (HNM.out _).mono ?_
                rintro e w5 ⟨rfl, hb5⟩
                have D5 := Lib.hid (HDX.out.keep hb5)
                have hsz5 := hb5.size
                have HB5 := Lib.hid (bytes_keep HBX.out (fun j hx => (hb5.cell (p := ⟨W2.heap.size, j, none⟩) hx)))
                have hw5 : w5.cell? ⟨gw, o3 + i, none⟩ = some (.string T) := (hb5.cell (p := ⟨gw, o3 + i, none⟩) (World.block_lt_of_cell? _ _ hwd)).trans hwd
                clear hb5 hwd hfb' c0 c1 c2 c3 c4 c5 c6 e1 e2 e3 e4 e5
                obtain ⟨⟨c0, c1, c2, c3, c4, c5, c6⟩, cf⟩ := D5.out.seven
                have e1 := cf 1; have e2 := cf 2; have e3 := cf 3; have e4 := cf 4; have e5 := cf 5
                clear cf
                by_cases hi0 : i = 0
                · subst hi0
                  rw [Nat.add_zero] at hw5
                  have hm0 : (0 : Int) < (m : Int) := by omega
                  rw [HTT.out] at hw5
                  go_upto_region 35 with fail
                  refine wp_namedR ?_
                  intro w9 hW9
                  replace hW9 : w9 = (w5.setCell ⟨gq, 1, none⟩ (.string (txt t))) := hW9
                  have HD9 := Lib.hid (DSt.store (q' := { q with name := t }) (cv' := .slice none 0 0) D5.out 1 (.string (txt t)) rfl)
                  rw [← hW9] at HD9
                  have HB9 := Lib.hid (bytes_keep HB5.out (W' := w9) (fun j hx => by rw [hW9]; exact bytes_set (by have := HLT0.out; omega)))
                  have hs9 : w5.heap.size ≤ w9.heap.size := by rw [hW9]; simp
                  clear hW9 c0 c1 c2 c3 c4 c5 c6 e1 e2 e3 e4 e5
                  by_cases hN : namedF t = true
                  · have HNN := Lib.hid hN
                    rw [hN]
                    go_wp2_with fail
                    refine ⟨⟨0 + 1, { q with name := t }, by go_num, by omega, HD9.out, ?_, HB9.out, hqv, hqc, by omega⟩, by simp [intOf] <;> omega⟩
                    show docF _ _ _ _ = _
                    rw [← HSTEP.out]; exact (doc_next (by decide) (by rw [step_n HT.out, if_pos HNN.out, if_pos rfl])).symm
                  · have HNN := Lib.hid hN
                    rw [Bool.eq_false_iff.2 hN]
                    have HX := Lib.hid (HERR.out (by rw [← HSTEP.out]; exact doc_fail (by decide) (by rw [step_n HT.out, if_neg HNN.out])))
                    obtain ⟨⟨z0, z1, z2, z3, z4, z5, z6⟩, zf⟩ := Go.Proofs.YtdmamecfmfhlmaaGreatDoor.seven (show w9.heap[w.heap.size]? = some (.cells #[_, _, _, _, _, _, _] _ _) from HD9.out.res)
                    have f0 := zf 0; have f1 := zf 1; have f2 := zf 2; have f3 := zf 3; have f4 := zf 4; have f5 := zf 5; have f6 := zf 6
                    clear zf
                    go_wp2_with fail
                    obtain ⟨p0, p1, p2, p3, p4, p5, p6⟩ := HD9.out.told (.int .i64 0) (.string ⟨#[]⟩) (.string ⟨#[]⟩) (.int .i64 0) (.int .i64 0) (.int .i64 0) (.slice none 0 0)
                    simp only [set7] at p0 p1 p2 p3 p4 p5 p6
                    exact bodyPost_ret (v := .tuple #[.agg #[.int .i64 0, .string ⟨#[]⟩, .string ⟨#[]⟩, .int .i64 0, .int .i64 0, .int .i64 0, .slice none 0 0], .int .i64 2]) (by simp [results, Tryz.results14, go_sem, p0, p1, p2, p3, p4, p5, p6]) rfl (HD9.out.no (HX.out))
                · have t9 : ((i : Int) == 0) = false := by rw [beq_eq_false_iff_ne]; omega
                  have HI0 := Lib.hid hi0
                  have t10 : ¬ ((i : Int) = 0) := by omega
                  clear hi0
                  rw [HTT.out] at hw5
                  go_upto_region 35 with fail
                  refine wp_namedR ?_
                  intro w9 hW9
                  replace hW9 : w9 = (w5.setCell ⟨gq, 2, none⟩ (.string (txt t))) := hW9
                  have HD9 := Lib.hid (DSt.store (q' := { q with other := t }) (cv' := .slice none 0 0) D5.out 2 (.string (txt t)) rfl)
                  rw [← hW9] at HD9
                  have HB9 := Lib.hid (bytes_keep HB5.out (W' := w9) (fun j hx => by rw [hW9]; exact bytes_set (by have := HLT0.out; omega)))
                  have hs9 : w5.heap.size ≤ w9.heap.size := by rw [hW9]; simp
                  clear hW9 c0 c1 c2 c3 c4 c5 c6 e1 e2 e3 e4 e5
                  by_cases hN : namedF t = true
                  · have HNN := Lib.hid hN
                    rw [hN]
                    go_wp2_with fail
                    refine ⟨⟨i + 1, { q with other := t }, by go_num, by omega, HD9.out, ?_, HB9.out, hqv, hqc, by omega⟩, by simp [intOf] <;> omega⟩
                    show docF _ _ _ _ = _
                    rw [← HSTEP.out]; exact (doc_next (by decide) (by rw [step_n HT.out, if_pos HNN.out, if_neg HI0.out])).symm
                  · have HNN := Lib.hid hN
                    rw [Bool.eq_false_iff.2 hN]
                    have HX := Lib.hid (HERR.out (by rw [← HSTEP.out]; exact doc_fail (by decide) (by rw [step_n HT.out, if_neg HNN.out])))
                    obtain ⟨⟨z0, z1, z2, z3, z4, z5, z6⟩, zf⟩ := Go.Proofs.YtdmamecfmfhlmaaGreatDoor.seven (show w9.heap[w.heap.size]? = some (.cells #[_, _, _, _, _, _, _] _ _) from HD9.out.res)
                    have f0 := zf 0; have f1 := zf 1; have f2 := zf 2; have f3 := zf 3; have f4 := zf 4; have f5 := zf 5; have f6 := zf 6
                    clear zf
                    go_wp2_with fail
                    obtain ⟨p0, p1, p2, p3, p4, p5, p6⟩ := HD9.out.told (.int .i64 0) (.string ⟨#[]⟩) (.string ⟨#[]⟩) (.int .i64 0) (.int .i64 0) (.int .i64 0) (.slice none 0 0)
                    simp only [set7] at p0 p1 p2 p3 p4 p5 p6
                    exact bodyPost_ret (v := .tuple #[.agg #[.int .i64 0, .string ⟨#[]⟩, .string ⟨#[]⟩, .int .i64 0, .int .i64 0, .int .i64 0, .slice none 0 0], .int .i64 2]) (by simp [results, Tryz.results14, go_sem, p0, p1, p2, p3, p4, p5, p6]) rfl (HD9.out.no (HX.out))
              · have hfb' : wr.cell? ⟨W2.heap.size, i, none⟩ = some (.int .u8 112) := hfb
                clear hfb
                go_wp2_with fail
                refine (HNM.out _).mono ?_
                rintro e w5 ⟨rfl, hb5⟩
                have D5 := Lib.hid (HDX.out.keep hb5)
                have hsz5 := hb5.size
                have HB5 := Lib.hid (bytes_keep HBX.out (fun j hx => (hb5.cell (p := ⟨W2.heap.size, j, none⟩) hx)))
                have hw5 : w5.cell? ⟨gw, o3 + i, none⟩ = some (.string T) := (hb5.cell (p := ⟨gw, o3 + i, none⟩) (World.block_lt_of_cell? _ _ hwd)).trans hwd
                clear hb5 hwd hfb' c0 c1 c2 c3 c4 c5 c6 e1 e2 e3 e4 e5
                by_cases hN : namedF t = true
                · have HPL := Lib.hid (show placeF t = true by unfold placeF; rw [hN]; rfl)
                  rw [hN]
                  obtain ⟨⟨c0, c1, c2, c3, c4, c5, c6⟩, cf⟩ := D5.out.seven
                  have e1 := cf 1; have e2 := cf 2; have e3 := cf 3; have e4 := cf 4; have e5 := cf 5
                  clear cf
                  rw [HTT.out] at hw5
                  go_upto_region 35 with fail
                  refine wp_namedR ?_
                  intro w9 hW9
                  replace hW9 : w9 = (w5.setCell ⟨gq, 1, none⟩ (.string (txt t))) := hW9
                  have HD9 := Lib.hid (DSt.store (q' := { q with name := t }) (cv' := .slice none 0 0) D5.out 1 (.string (txt t)) rfl)
                  rw [← hW9] at HD9
                  have HB9 := Lib.hid (bytes_keep HB5.out (W' := w9) (fun j hx => by rw [hW9]; exact bytes_set (by have := HLT0.out; omega)))
                  have hs9 : w5.heap.size ≤ w9.heap.size := by rw [hW9]; simp
                  clear hW9 c0 c1 c2 c3 c4 c5 c6 e1 e2 e3 e4 e5
                  go_wp2_with fail
                  refine ⟨⟨i + 1, { q with name := t }, by go_num, by omega, HD9.out, ?_, HB9.out, hqv, hqc, by omega⟩, by simp [intOf] <;> omega⟩
                  show docF _ _ _ _ = _
                  rw [← HSTEP.out]; exact (doc_next (by decide) (by rw [step_p HT.out, if_pos HPL.out])).symm
                · have HNN := Lib.hid (Bool.eq_false_iff.2 hN)
                  rw [Bool.eq_false_iff.2 hN]
                  clear hN
                  go_wp2_with fail
                  refine (HKY.out _).mono ?_
                  rintro e w6 ⟨rfl, hb6⟩
                  have D6 := Lib.hid (D5.out.keep hb6)
                  have hsz6 := hb6.size
                  have HB6 := Lib.hid (bytes_keep HB5.out (fun j hx => (hb6.cell (p := ⟨W2.heap.size, j, none⟩) hx)))
                  have hw6 : w6.cell? ⟨gw, o3 + i, none⟩ = some (.string T) := (hb6.cell (p := ⟨gw, o3 + i, none⟩) (World.block_lt_of_cell? _ _ hw5)).trans hw5
                  clear hb6 hw5
                  obtain ⟨⟨c0, c1, c2, c3, c4, c5, c6⟩, cf⟩ := D6.out.seven
                  have e1 := cf 1; have e2 := cf 2; have e3 := cf 3; have e4 := cf 4; have e5 := cf 5
                  clear cf
                  rw [HTT.out] at hw6
                  go_upto_region 35 with fail
                  refine wp_namedR ?_
                  intro w9 hW9
                  replace hW9 : w9 = (w6.setCell ⟨gq, 1, none⟩ (.string (txt t))) := hW9
                  have HD9 := Lib.hid (DSt.store (q' := { q with name := t }) (cv' := .slice none 0 0) D6.out 1 (.string (txt t)) rfl)
                  rw [← hW9] at HD9
                  have HB9 := Lib.hid (bytes_keep HB6.out (W' := w9) (fun j hx => by rw [hW9]; exact bytes_set (by have := HLT0.out; omega)))
                  have hs9 : w6.heap.size ≤ w9.heap.size := by rw [hW9]; simp
                  clear hW9 c0 c1 c2 c3 c4 c5 c6 e1 e2 e3 e4 e5
                  by_cases hN : keyedF t = true
                  · have HPL := Lib.hid (show placeF t = true by unfold placeF; rw [HNN.out, hN]; rfl)
                    rw [hN]
                    go_wp2_with fail
                    refine ⟨⟨i + 1, { q with name := t }, by go_num, by omega, HD9.out, ?_, HB9.out, hqv, hqc, by omega⟩, by simp [intOf] <;> omega⟩
                    show docF _ _ _ _ = _
                    rw [← HSTEP.out]; exact (doc_next (by decide) (by rw [step_p HT.out, if_pos HPL.out])).symm
                  · have HPL := Lib.hid (show ¬ placeF t = true by unfold placeF; rw [HNN.out, Bool.eq_false_iff.2 hN]; decide)
                    rw [Bool.eq_false_iff.2 hN]
                    have HX := Lib.hid (HERR.out (by rw [← HSTEP.out]; exact doc_fail (by decide) (by rw [step_p HT.out, if_neg HPL.out])))
                    obtain ⟨⟨z0, z1, z2, z3, z4, z5, z6⟩, zf⟩ := Go.Proofs.YtdmamecfmfhlmaaGreatDoor.seven (show w9.heap[w.heap.size]? = some (.cells #[_, _, _, _, _, _, _] _ _) from HD9.out.res)
                    have f0 := zf 0; have f1 := zf 1; have f2 := zf 2; have f3 := zf 3; have f4 := zf 4; have f5 := zf 5; have f6 := zf 6
                    clear zf
                    go_wp2_with fail
                    obtain ⟨p0, p1, p2, p3, p4, p5, p6⟩ := HD9.out.told (.int .i64 0) (.string ⟨#[]⟩) (.string ⟨#[]⟩) (.int .i64 0) (.int .i64 0) (.int .i64 0) (.slice none 0 0)
                    simp only [set7] at p0 p1 p2 p3 p4 p5 p6
                    exact bodyPost_ret (v := .tuple #[.agg #[.int .i64 0, .string ⟨#[]⟩, .string ⟨#[]⟩, .int .i64 0, .int .i64 0, .int .i64 0, .slice none 0 0], .int .i64 2]) (by simp [results, Tryz.results14, go_sem, p0, p1, p2, p3, p4, p5, p6]) rfl (HD9.out.no (HX.out))
              · have hfb' : wr.cell? ⟨W2.heap.size, i, none⟩ = some (.int .u8 114) := hfb
                clear hfb
                have HRD := Lib.hid (fun W => refRead_any t W (by omega))
                unfold ReadAs at HRD
                obtain ⟨⟨⟨bo, li⟩, er⟩, hx⟩ : ∃ x, x = readF t := ⟨_, rfl⟩
                rw [← HTT.out, ← hx] at HRD
                dsimp only at HRD
                have HX1 := Lib.hid hx
                clear hx
                go_wp2_with fail
                with_reducible refine (HRD.out _).mono ?_
                rintro e w5 ⟨rfl, hb5⟩
                have D5 := Lib.hid (HDX.out.keep hb5)
                have hsz5 := hb5.size
                have HB5 := Lib.hid (bytes_keep HBX.out (fun j hx => (hb5.cell (p := ⟨W2.heap.size, j, none⟩) hx)))
                clear hb5 hwd hfb' c0 c1 c2 c3 c4 c5 c6 e1 e2 e3 e4 e5
                by_cases hN : er = 0
                · subst hN
                  obtain ⟨⟨c0, c1, c2, c3, c4, c5, c6⟩, cf⟩ := D5.out.seven
                  have e1 := cf 1; have e2 := cf 2; have e3 := cf 3; have e4 := cf 4; have e5 := cf 5
                  clear cf
                  go_upto_region 35 with fail
                  refine wp_namedR ?_
                  intro w9 hW9
                  replace hW9 : w9 = ((w5.setCell ⟨gq, 3, none⟩ (.int .i64 bo)).setCell ⟨gq, 4, none⟩ (.int .i64 li)) := hW9
                  have HD9 := Lib.hid (DSt.store (q' := { q with b := bo, l := li }) (cv' := .slice none 0 0) (DSt.store (q' := { q with b := bo }) (cv' := .slice none 0 0) D5.out 3 (.int .i64 bo) rfl) 4 (.int .i64 li) rfl)
                  rw [← hW9] at HD9
                  have HB9 := Lib.hid (bytes_keep HB5.out (W' := w9) (fun j hx => by rw [hW9]; exact (bytes_set (by have := HLT0.out; omega)).trans (bytes_set (by have := HLT0.out; omega))))
                  have hs9 : w5.heap.size ≤ w9.heap.size := by rw [hW9]; simp
                  clear hW9 c0 c1 c2 c3 c4 c5 c6 e1 e2 e3 e4 e5
                  go_wp2_with fail
                  refine ⟨⟨i + 1, { q with b := bo, l := li }, by go_num, by omega, HD9.out, ?_, HB9.out, hqv, hqc, by omega⟩, by simp [intOf] <;> omega⟩
                  show docF _ _ _ _ = _
                  rw [← HSTEP.out]; exact (doc_next (by decide) (by rw [step_r HT.out, if_pos (by unfold ruleOk; rw [← HX1.out]; rfl), ← HX1.out])).symm
                · have HNN := Lib.hid hN
                  have t9 : (er == 0) = false := by rw [beq_eq_false_iff_ne]; exact hN
                  obtain ⟨⟨c0, c1, c2, c3, c4, c5, c6⟩, cf⟩ := D5.out.seven
                  have e1 := cf 1; have e2 := cf 2; have e3 := cf 3; have e4 := cf 4; have e5 := cf 5
                  clear cf
                  go_upto_region 35 with fail
                  refine wp_namedR ?_
                  intro w9 hW9
                  replace hW9 : w9 = ((w5.setCell ⟨gq, 3, none⟩ (.int .i64 bo)).setCell ⟨gq, 4, none⟩ (.int .i64 li)) := hW9
                  have HD9 := Lib.hid (DSt.store (q' := { q with b := bo, l := li }) (cv' := .slice none 0 0) (DSt.store (q' := { q with b := bo }) (cv' := .slice none 0 0) D5.out 3 (.int .i64 bo) rfl) 4 (.int .i64 li) rfl)
                  rw [← hW9] at HD9
                  have HB9 := Lib.hid (bytes_keep HB5.out (W' := w9) (fun j hx => by rw [hW9]; exact (bytes_set (by have := HLT0.out; omega)).trans (bytes_set (by have := HLT0.out; omega))))
                  have hs9 : w5.heap.size ≤ w9.heap.size := by rw [hW9]; simp
                  clear hW9 c0 c1 c2 c3 c4 c5 c6 e1 e2 e3 e4 e5
                  have HX := Lib.hid (HERR.out (by rw [← HSTEP.out]; exact doc_fail (by decide) (by rw [step_r HT.out, if_neg (by unfold ruleOk; rw [← HX1.out]; simpa using HNN.out)])))
                  obtain ⟨⟨z0, z1, z2, z3, z4, z5, z6⟩, zf⟩ := Go.Proofs.YtdmamecfmfhlmaaGreatDoor.seven (show w9.heap[w.heap.size]? = some (.cells #[_, _, _, _, _, _, _] _ _) from HD9.out.res)
                  have f0 := zf 0; have f1 := zf 1; have f2 := zf 2; have f3 := zf 3; have f4 := zf 4; have f5 := zf 5; have f6 := zf 6
                  clear zf
                  go_wp2_with fail
                  obtain ⟨p0, p1, p2, p3, p4, p5, p6⟩ := HD9.out.told (.int .i64 0) (.string ⟨#[]⟩) (.string ⟨#[]⟩) (.int .i64 0) (.int .i64 0) (.int .i64 0) (.slice none 0 0)
                  simp only [set7] at p0 p1 p2 p3 p4 p5 p6
                  exact bodyPost_ret (v := .tuple #[.agg #[.int .i64 0, .string ⟨#[]⟩, .string ⟨#[]⟩, .int .i64 0, .int .i64 0, .int .i64 0, .slice none 0 0], .int .i64 2]) (by simp [results, Tryz.results14, go_sem, p0, p1, p2, p3, p4, p5, p6]) rfl (HD9.out.no (HX.out))
              · have hfb' : wr.cell? ⟨W2.heap.size, i, none⟩ = some (.int .u8 100) := hfb
                clear hfb
                have HSG := Lib.hid (fun W => signed_any t W htl)
                rw [← HTT.out, sign_same] at HSG
                unfold numA at HSG
                obtain ⟨x, hx⟩ : ∃ x, x = (if okS t = true then valS t else 0) := ⟨_, rfl⟩
                rw [← hx] at HSG
                have HX1 := Lib.hid hx
                clear hx
                go_wp2_with fail
                with_reducible refine (HSG.out _).mono ?_
                rintro e w5 ⟨rfl, hb5⟩
                have D5 := Lib.hid (HDX.out.keep hb5)
                have hsz5 := hb5.size
                have HB5 := Lib.hid (bytes_keep HBX.out (fun j hx => (hb5.cell (p := ⟨W2.heap.size, j, none⟩) hx)))
                clear hb5 hwd hfb' c0 c1 c2 c3 c4 c5 c6 e1 e2 e3 e4 e5
                obtain ⟨⟨c0, c1, c2, c3, c4, c5, c6⟩, cf⟩ := D5.out.seven
                have e1 := cf 1; have e2 := cf 2; have e3 := cf 3; have e4 := cf 4; have e5 := cf 5
                clear cf
                go_upto_region 35 with fail
                refine wp_namedR ?_
                intro w9 hW9
                replace hW9 : w9 = (w5.setCell ⟨gq, 5, none⟩ (.int .i64 x)) := hW9
                have HD9 := Lib.hid (DSt.store (q' := { q with n := x }) (cv' := .slice none 0 0) D5.out 5 (.int .i64 x) rfl)
                rw [← hW9] at HD9
                have HB9 := Lib.hid (bytes_keep HB5.out (W' := w9) (fun j hx => by rw [hW9]; exact bytes_set (by have := HLT0.out; omega)))
                have hs9 : w5.heap.size ≤ w9.heap.size := by rw [hW9]; simp
                clear hW9 c0 c1 c2 c3 c4 c5 c6 e1 e2 e3 e4 e5
                by_cases hN : okS t = true
                · have HNN := Lib.hid hN
                  rw [hN]
                  go_wp2_with fail
                  refine ⟨⟨i + 1, { q with n := x }, by go_num, by omega, HD9.out, ?_, HB9.out, hqv, hqc, by omega⟩, by simp [intOf] <;> omega⟩
                  show docF _ _ _ _ = _
                  rw [← HSTEP.out]; exact (doc_next (by decide) (by rw [step_d HT.out, if_pos HNN.out, HX1.out, if_pos HNN.out])).symm
                · have HNN := Lib.hid hN
                  rw [Bool.eq_false_iff.2 hN]
                  have HX := Lib.hid (HERR.out (by rw [← HSTEP.out]; exact doc_fail (by decide) (by rw [step_d HT.out, if_neg HNN.out])))
                  obtain ⟨⟨z0, z1, z2, z3, z4, z5, z6⟩, zf⟩ := Go.Proofs.YtdmamecfmfhlmaaGreatDoor.seven (show w9.heap[w.heap.size]? = some (.cells #[_, _, _, _, _, _, _] _ _) from HD9.out.res)
                  have f0 := zf 0; have f1 := zf 1; have f2 := zf 2; have f3 := zf 3; have f4 := zf 4; have f5 := zf 5; have f6 := zf 6
                  clear zf
                  go_wp2_with fail
                  obtain ⟨p0, p1, p2, p3, p4, p5, p6⟩ := HD9.out.told (.int .i64 0) (.string ⟨#[]⟩) (.string ⟨#[]⟩) (.int .i64 0) (.int .i64 0) (.int .i64 0) (.slice none 0 0)
                  simp only [set7] at p0 p1 p2 p3 p4 p5 p6
                  exact bodyPost_ret (v := .tuple #[.agg #[.int .i64 0, .string ⟨#[]⟩, .string ⟨#[]⟩, .int .i64 0, .int .i64 0, .int .i64 0, .slice none 0 0], .int .i64 2]) (by simp [results, Tryz.results14, go_sem, p0, p1, p2, p3, p4, p5, p6]) rfl (HD9.out.no (HX.out))
end Go.Proofs.YtdmamecfmfhlmaaGreatDoor
