/-
  For every list of cells (three hundred at the most), the square that is made is the least that reaches them all and has just these cells, or the error is told; no condition.
-/
import Derived.Test.YtdmamecfmfhlmaaQFromMath
import Derived.Test.YtdmamecfmfhlmaaTidyRef
import Derived.Test.YtdmamecfmfhlmaaPuts
namespace Go.Proofs.Ytdmamecfmfhlmaa
set_option maxRecDepth 100000
open Go.RowKit

set_option maxHeartbeats 2000000 in
theorem made_bad (zs : CellL) (a : Option Addr) (c : Nat) (w : World) (hs : Sl w 2 16 a zs.length c (zs.flatMap encCell)) (hbad : (tidyF zs).2 ≠ 0) (hlen : zs.length ≤ 300) :
    Calls Try.prog 10 #[.slice a zs.length c] w fun e w' => (∃ b : Nat, e = .returned (.tuple #[.pointer (some ⟨b, 0, none⟩), .int .i64 0, .int .i64 (tidyF zs).2, .bool true])) ∧ Below w.heap.size w w' := by
  have HN := Lib.hid (arenaNew_any 200000 w (by omega))
  rw [show ((200000 : Nat) : Int) = (200000 : Int) from rfl] at HN
  have HS := Lib.hid hs
  have HBAD := Lib.hid hbad
  obtain ⟨n, hn⟩ : ∃ n, n = zs.length := ⟨_, rfl⟩
  obtain ⟨er, her⟩ : ∃ er, er = (tidyF zs).2 := ⟨_, rfl⟩
  rw [← hn, ← her]
  have HL := Lib.hid hn
  have HER := Lib.hid her
  clear hs hbad hn her
  go_enter Try.func10, Try.ntmps10
  go_wp2_with fail
  with_reducible refine HN.out.mono ?_
  rintro e w1 ⟨arr, rfl, hb, h0, h1, h2, hsz, ha⟩
  have HB := Lib.hid hb
  have HCE := Lib.hid (cells_any zs a c w1 (HS.out.below (by omega) hb))
  unfold Cells at HCE
  rw [← HL.out] at HCE
  clear hb h0 h1 h2 hsz ha
  go_wp2_with fail
  with_reducible refine HCE.out.mono ?_
  rintro e w2 ⟨v, rfl, hb2, hown⟩
  obtain ⟨a2, c2, rfl, hsl⟩ := sl_of_own (bytes := 16) hown (by have := HL.out; omega)
  rw [HL.out] at hsl
  have HF := Lib.hid (from_bad (w.heap.size + 2) 3 zs a2 c2 w2 hsl HBAD.out)
  rw [← HL.out, ← HER.out, show ((3 : Nat) : Int) = (3 : Int) from rfl] at HF
  have HB2 := Lib.hid (HB.out.trans (hb2.mono HB.out.size))
  clear hb2 hown hsl
  go_wp2_with fail
  with_reducible refine HF.out.mono ?_
  rintro e w3 ⟨rfl, hb3⟩
  have HB3 := Lib.hid (HB2.out.trans (hb3.mono HB2.out.size))
  clear hb3
  go_wp2_with fail
  refine bodyPost_ret (v := .tuple #[.pointer (some ⟨w.heap.size + 2, 0, none⟩), .int .i64 0, .int .i64 er, .bool true]) (by simp [results, Try.results10, go_sem]) rfl ?_
  exact ⟨⟨_, rfl⟩, HB3.out⟩
theorem sl_take {w : World} {a : Option Addr} {cap : Nat} {zs : CellL} (h : Sl w 2 16 a zs.length cap (zs.flatMap encCell)) (m : Nat) : Sl w 2 16 a (zs.take m).length cap ((zs.take m).flatMap encCell) := by
  have hl : (zs.take m).length ≤ zs.length := by rw [List.length_take]; omega
  refine ⟨flat_length (k := 2) (enc := encCell) (fun _ => rfl) _, Nat.le_trans hl h.room, h.fits, h.nil, Nat.le_trans (Nat.mul_le_mul_right _ hl) h.wide, fun hp => ?_⟩
  obtain ⟨b, o, e, hr⟩ := h.row (by omega)
  refine ⟨b, o, e, fun j u hu => hr j u ?_⟩
  have hsplit : zs.flatMap encCell = (zs.take m).flatMap encCell ++ (zs.drop m).flatMap encCell := by rw [← List.flatMap_append, List.take_append_drop]
  rw [hsplit, List.getElem?_append_left (List.getElem?_eq_some_iff.1 hu).1]
  exact hu
set_option maxHeartbeats 8000000 in
set_option maxRecDepth 100000 in
theorem law_froms (zs : CellL) (a : Option Addr) (cap : Nat) (w : World) (hs : Sl w 2 16 a zs.length cap (zs.flatMap encCell)) : Calls Try.prog 4 #[.slice a zs.length cap] w fun e w' => e = .returned (.bool true) ∧ Below w.heap.size w w' := by
  obtain ⟨ys, hys⟩ : ∃ ys, ys = zs.take 300 := ⟨_, rfl⟩
  have hyl : ys.length ≤ 300 := by rw [hys, List.length_take]; omega
  obtain ⟨yn, hyn⟩ : ∃ yn, yn = ys.length := ⟨_, rfl⟩
  obtain ⟨n, hn⟩ : ∃ n, n = zs.length := ⟨_, rfl⟩
  have hcut : yn = min 300 n := by rw [hyn, hys, List.length_take, hn]
  have hsy : Sl w 2 16 a ys.length cap (ys.flatMap encCell) := by rw [hys]; exact sl_take hs 300
  rw [← hn]
  have hncap : n ≤ cap := by rw [hn]; exact hs.room
  have HSY := Lib.hid hsy
  have HYN := Lib.hid hyn
  have HYL := Lib.hid hyl
  clear hs hsy hys hn hyn hyl
  by_cases hbig : 300 < n
  · have u1 : decide ((n : Int) > 300) = true := decide_eq_true (by omega)
    have u2 : decide (300 < (n : Int)) = true := decide_eq_true (by omega)
    have u3 : decide (300 < n) = true := decide_eq_true hbig
    have hy : yn = 300 := by omega
    have hc3 : 300 ≤ cap := by omega
    subst hy
    clear hcut
    by_cases hbad : (tidyF ys).2 = 0
    · have HM := Lib.hid (made_ok ys a cap w HSY.out hbad (by have := HYL.out; omega))
      rw [← HYN.out] at HM
      have HBAD := Lib.hid hbad
      clear hbad
      go_enter Try.func4, Try.ntmps4
      go_wp2_with fail
      with_reducible refine HM.out.mono ?_
      rintro e w1 ⟨b, lev, r, S, F, rfl, hlev, hr, hI, hF, hB, hG, hW, hden, hlive⟩
      have HB1 := Lib.hid hB
      have HI1 := Lib.hid hI
      have HT := Lib.hid (refTidy_any ys a cap w1 (HSY.out.below (by omega) hB))
      unfold Tidied at HT
      rw [← HYN.out, HBAD.out] at HT
      have HLV := Lib.hid hlev
      have HDEN := Lib.hid hden
      have HF1 := Lib.hid hF
      clear hlev hr hI hF hB hG hW hden hlive
      go_wp2_with fail
      with_reducible refine HT.out.mono ?_
      rintro e w2 ⟨v2, rfl, hb2, ht2⟩
      have HB2 := Lib.hid (HB1.out.trans (hb2.mono HB1.out.size))
      have HI2 := Lib.hid (HI1.out.below hb2)
      have HT2 := Lib.hid ht2
      obtain ⟨k, hk⟩ : ∃ k, lev = k + 1 := ⟨lev - 1, by have := HLV.out.lo; omega⟩
      subst hk
      have hden := HDEN.out
      have hcn := cnt_build (within_box (by omega) HLV.out.all)
      have hcells := qcells_any b 3 S F k _ r w2 HI2.out (by omega) hden (Nat.le_trans hcn (tidyF_length ys)) (by have := HLV.out.hi; omega)
      have htb := tidy_build HBAD.out HLV.out
      rw [show (k + 1 - 1) = k from rfl] at htb hcells
      unfold Tidied at hcells
      rw [htb, show ((3 : Nat) : Int) = (3 : Int) from rfl] at hcells
      have HCE := Lib.hid hcells
      have HLL := Lib.hid (hden.levelA HI2.out.ok (t := 3) (by omega))
      clear hb2 ht2 hden hcn hcells htb
      go_wp2_with fail
      with_reducible refine HCE.out.mono ?_
      rintro e w3 ⟨v3, rfl, hb3, ht3⟩
      have HB3 := Lib.hid (HB2.out.trans (hb3.mono HB2.out.size))
      have HT3 := Lib.hid ht3
      have HT23 := Lib.hid (HT2.out.below hb3)
      have HLE := Lib.hid (level_any b S F ((3 : Nat) : Int) r w3 (HI2.out.below hb3))
      rw [HLL.out, show ((3 : Nat) : Int) = (3 : Int) from rfl] at HLE
      clear hb3 ht3
      go_wp2_with fail
      with_reducible refine HLE.out.mono ?_
      rintro e w4 ⟨rfl, rfl⟩
      obtain ⟨a2, c2, hv2, _, _⟩ := HT23.out.form
      obtain ⟨a3, c3, hv3, _, _⟩ := HT3.out.form
      subst hv2
      subst hv3
      obtain ⟨s, hs⟩ : ∃ s, s = (tidyF ys).1 := ⟨_, rfl⟩
      have hlen4 := tidyF_length ys
      have hnear := tidy_near HBAD.out
      have hls := HLV.out
      have h23 := HT23.out
      have h33 := HT3.out
      rw [← hs] at hlen4 hnear hls h23 h33 ⊢
      have HSL2 := Lib.hid (h23.sl (by omega))
      have HSL3 := Lib.hid (h33.sl (by omega))
      have HNR := Lib.hid hnear
      have HLS := Lib.hid hls
      obtain ⟨sn, hsn⟩ : ∃ sn, sn = s.length := ⟨_, rfl⟩
      have HSN := Lib.hid hsn
      rw [← hsn]
      obtain ⟨lv, hlv⟩ : ∃ lv : Nat, lv = k + 1 := ⟨_, rfl⟩
      have hlvI : ((k + 1 : Nat) : Int) = (lv : Int) := by omega
      rw [hlvI]
      have HLW := Lib.hid (show Least s lv by rw [hlv]; exact hls)
      have hlv41 : lv ≤ 41 := by have := hls.hi; omega
      have hlv2 : 2 ≤ lv := by have := hls.lo; omega
      clear hs hlen4 hnear hls h23 h33 hsn hlv hlvI
      go_wp2_with fail
      go_loopw [13] (fun iv ws => ∃ j : Nat, iv = .int .i64 j ∧ 2 ≤ j ∧ j ≤ lv ∧ Aside (Below w4.heap.size w4 ws)) (fun iv _ => lv - (intOf iv).toNat)
      case atStart => exact ⟨2, rfl, by omega, by omega, Below.refl _ _⟩
      case round =>
        obtain ⟨j, rfl, hj2, hjl, HBW⟩ := hrel
        obtain ⟨H, hH⟩ : ∃ H : Nat, H = 2 ^ (j - 1) := ⟨_, rfl⟩
        have HRE := Lib.hid (reach_any s a2 c2 wr (HSL2.out.below (by omega) HBW.out) HNR.out)
        rw [← HSN.out] at HRE
        obtain ⟨rc, hrc⟩ : ∃ rc, rc = reachF s := ⟨_, rfl⟩
        rw [← hrc] at HRE
        obtain ⟨p, rfl⟩ : ∃ p, j = p + 1 := ⟨j - 1, by omega⟩
        rw [show p + 1 - 1 = p from rfl] at hH
        have hHb : H ≤ 1099511627776 := by
          have : 2 ^ p ≤ 2 ^ 40 := Nat.pow_le_pow_right (by omega) (by omega)
          omega
        have hwr : IntKind.i64.wrap (2 ^ p) = (H : Int) := by
          rw [show (2 : Int) ^ p = (H : Int) by rw [hH, Int.natCast_pow]; rfl, IntKind.wrap_i64]; omega
        have hpI : ((p + 1 : Nat) : Int) - 1 = (p : Int) := by omega
        have hHpos : 0 < H := by rw [hH]; exact Nat.pow_pos (by omega)
        have hiff := reach_lt (zs := s) (k := (H : Int)) (by omega)
        rw [← hrc] at hiff
        have HIFF := Lib.hid hiff
        have HHE := Lib.hid hH
        clear hrc hH hiff
        go_wp2_with fail
        with_reducible refine HRE.out.mono ?_
        rintro e w5 ⟨rfl, hb5⟩
        have HB5 := Lib.hid (HBW.out.trans (hb5.mono HBW.out.size))
        clear hb5
        by_cases hle : (H : Int) ≤ rc
        · have m1 : decide ((H : Int) ≤ rc) = true := decide_eq_true hle
          have hlt : p + 1 < lv := by
            rcases Nat.lt_or_ge (p + 1) lv with h | h
            · exact h
            · exfalso
              have e : lv - 1 = p := by omega
              have ha := HLW.out.all
              rw [e, ← HHE.out] at ha
              have := HIFF.out.2 ha
              omega
          go_wp2_with fail
          refine ⟨⟨p + 2, by go_num, by omega, by omega, HB5.out⟩, by simp [intOf]; omega⟩
        · have m1 : decide ((H : Int) ≤ rc) = false := decide_eq_false hle
          have hpl : lv = p + 1 := by
            rcases Nat.lt_or_ge (p + 1) lv with h | h
            · exfalso
              have hw := HIFF.out.1 (by omega)
              rw [HHE.out] at hw
              exact HLW.out.least (p + 1) (by omega) h hw
            · omega
          subst hpl
          have HSA := Lib.hid (same_any s a3 a2 c3 c2 w5 (HSL3.out.below (by omega) HB5.out) (HSL2.out.below (by omega) HB5.out))
          rw [← HSN.out] at HSA
          go_wp2_with fail
          with_reducible refine HSA.out.mono ?_
          rintro e w6 ⟨rfl, hb6⟩
          have HB6 := Lib.hid (HB3.out.trans ((HB5.out.trans (hb6.mono HB5.out.size)).mono HB3.out.size))
          clear hb6
          go_wp2_with fail
          go_ret
          exact ⟨by simp, HB6.out⟩
    · have HM := Lib.hid (made_bad ys a cap w HSY.out hbad (by have := HYL.out; omega))
      rw [← HYN.out] at HM
      obtain ⟨er, her⟩ : ∃ er, er = (tidyF ys).2 := ⟨_, rfl⟩
      rw [← her] at HM hbad
      have HER := Lib.hid her
      have g1 : (er == 0) = false := by simpa using hbad
      have g2 : (er != 0) = true := by simpa using hbad
      clear hbad her
      go_enter Try.func4, Try.ntmps4
      go_wp2_with fail
      with_reducible refine HM.out.mono ?_
      rintro e w1 ⟨⟨b, rfl⟩, hb1⟩
      have HB1 := Lib.hid hb1
      have HT := Lib.hid (refTidy_any ys a cap w1 (HSY.out.below (by omega) hb1))
      unfold Tidied at HT
      rw [← HYN.out, ← HER.out] at HT
      clear hb1
      go_wp2_with fail
      with_reducible refine HT.out.mono ?_
      rintro e w2 ⟨v2, rfl, hb2, _⟩
      have HB2 := Lib.hid (HB1.out.trans (hb2.mono HB1.out.size))
      clear hb2
      go_wp2_with fail
      go_ret
      exact ⟨rfl, HB2.out⟩
  · have u1 : decide ((n : Int) > 300) = false := decide_eq_false (by omega)
    have u2 : decide (300 < (n : Int)) = false := decide_eq_false (by omega)
    have u3 : decide (300 < n) = false := decide_eq_false hbig
    have hy : n = yn := by omega
    subst hy
    clear hcut
    by_cases hbad : (tidyF ys).2 = 0
    · have HM := Lib.hid (made_ok ys a cap w HSY.out hbad (by have := HYL.out; omega))
      rw [← HYN.out] at HM
      have HBAD := Lib.hid hbad
      clear hbad
      go_enter Try.func4, Try.ntmps4
      go_wp2_with fail
      with_reducible refine HM.out.mono ?_
      rintro e w1 ⟨b, lev, r, S, F, rfl, hlev, hr, hI, hF, hB, hG, hW, hden, hlive⟩
      have HB1 := Lib.hid hB
      have HI1 := Lib.hid hI
      have HT := Lib.hid (refTidy_any ys a cap w1 (HSY.out.below (by omega) hB))
      unfold Tidied at HT
      rw [← HYN.out, HBAD.out] at HT
      have HLV := Lib.hid hlev
      have HDEN := Lib.hid hden
      have HF1 := Lib.hid hF
      clear hlev hr hI hF hB hG hW hden hlive
      go_wp2_with fail
      with_reducible refine HT.out.mono ?_
      rintro e w2 ⟨v2, rfl, hb2, ht2⟩
      have HB2 := Lib.hid (HB1.out.trans (hb2.mono HB1.out.size))
      have HI2 := Lib.hid (HI1.out.below hb2)
      have HT2 := Lib.hid ht2
      obtain ⟨k, hk⟩ : ∃ k, lev = k + 1 := ⟨lev - 1, by have := HLV.out.lo; omega⟩
      subst hk
      have hden := HDEN.out
      have hcn := cnt_build (within_box (by omega) HLV.out.all)
      have hcells := qcells_any b 3 S F k _ r w2 HI2.out (by omega) hden (Nat.le_trans hcn (tidyF_length ys)) (by have := HLV.out.hi; omega)
      have htb := tidy_build HBAD.out HLV.out
      rw [show (k + 1 - 1) = k from rfl] at htb hcells
      unfold Tidied at hcells
      rw [htb, show ((3 : Nat) : Int) = (3 : Int) from rfl] at hcells
      have HCE := Lib.hid hcells
      have HLL := Lib.hid (hden.levelA HI2.out.ok (t := 3) (by omega))
      clear hb2 ht2 hden hcn hcells htb
      go_wp2_with fail
      with_reducible refine HCE.out.mono ?_
      rintro e w3 ⟨v3, rfl, hb3, ht3⟩
      have HB3 := Lib.hid (HB2.out.trans (hb3.mono HB2.out.size))
      have HT3 := Lib.hid ht3
      have HT23 := Lib.hid (HT2.out.below hb3)
      have HLE := Lib.hid (level_any b S F ((3 : Nat) : Int) r w3 (HI2.out.below hb3))
      rw [HLL.out, show ((3 : Nat) : Int) = (3 : Int) from rfl] at HLE
      clear hb3 ht3
      go_wp2_with fail
      with_reducible refine HLE.out.mono ?_
      rintro e w4 ⟨rfl, rfl⟩
      obtain ⟨a2, c2, hv2, _, _⟩ := HT23.out.form
      obtain ⟨a3, c3, hv3, _, _⟩ := HT3.out.form
      subst hv2
      subst hv3
      obtain ⟨s, hs⟩ : ∃ s, s = (tidyF ys).1 := ⟨_, rfl⟩
      have hlen4 := tidyF_length ys
      have hnear := tidy_near HBAD.out
      have hls := HLV.out
      have h23 := HT23.out
      have h33 := HT3.out
      rw [← hs] at hlen4 hnear hls h23 h33 ⊢
      have HSL2 := Lib.hid (h23.sl (by omega))
      have HSL3 := Lib.hid (h33.sl (by omega))
      have HNR := Lib.hid hnear
      have HLS := Lib.hid hls
      obtain ⟨sn, hsn⟩ : ∃ sn, sn = s.length := ⟨_, rfl⟩
      have HSN := Lib.hid hsn
      rw [← hsn]
      obtain ⟨lv, hlv⟩ : ∃ lv : Nat, lv = k + 1 := ⟨_, rfl⟩
      have hlvI : ((k + 1 : Nat) : Int) = (lv : Int) := by omega
      rw [hlvI]
      have HLW := Lib.hid (show Least s lv by rw [hlv]; exact hls)
      have hlv41 : lv ≤ 41 := by have := hls.hi; omega
      have hlv2 : 2 ≤ lv := by have := hls.lo; omega
      clear hs hlen4 hnear hls h23 h33 hsn hlv hlvI
      go_wp2_with fail
      go_loopw [13] (fun iv ws => ∃ j : Nat, iv = .int .i64 j ∧ 2 ≤ j ∧ j ≤ lv ∧ Aside (Below w4.heap.size w4 ws)) (fun iv _ => lv - (intOf iv).toNat)
      case atStart => exact ⟨2, rfl, by omega, by omega, Below.refl _ _⟩
      case round =>
        obtain ⟨j, rfl, hj2, hjl, HBW⟩ := hrel
        obtain ⟨H, hH⟩ : ∃ H : Nat, H = 2 ^ (j - 1) := ⟨_, rfl⟩
        have HRE := Lib.hid (reach_any s a2 c2 wr (HSL2.out.below (by omega) HBW.out) HNR.out)
        rw [← HSN.out] at HRE
        obtain ⟨rc, hrc⟩ : ∃ rc, rc = reachF s := ⟨_, rfl⟩
        rw [← hrc] at HRE
        obtain ⟨p, rfl⟩ : ∃ p, j = p + 1 := ⟨j - 1, by omega⟩
        rw [show p + 1 - 1 = p from rfl] at hH
        have hHb : H ≤ 1099511627776 := by
          have : 2 ^ p ≤ 2 ^ 40 := Nat.pow_le_pow_right (by omega) (by omega)
          omega
        have hwr : IntKind.i64.wrap (2 ^ p) = (H : Int) := by
          rw [show (2 : Int) ^ p = (H : Int) by rw [hH, Int.natCast_pow]; rfl, IntKind.wrap_i64]; omega
        have hpI : ((p + 1 : Nat) : Int) - 1 = (p : Int) := by omega
        have hHpos : 0 < H := by rw [hH]; exact Nat.pow_pos (by omega)
        have hiff := reach_lt (zs := s) (k := (H : Int)) (by omega)
        rw [← hrc] at hiff
        have HIFF := Lib.hid hiff
        have HHE := Lib.hid hH
        clear hrc hH hiff
        go_wp2_with fail
        with_reducible refine HRE.out.mono ?_
        rintro e w5 ⟨rfl, hb5⟩
        have HB5 := Lib.hid (HBW.out.trans (hb5.mono HBW.out.size))
        clear hb5
        by_cases hle : (H : Int) ≤ rc
        · have m1 : decide ((H : Int) ≤ rc) = true := decide_eq_true hle
          have hlt : p + 1 < lv := by
            rcases Nat.lt_or_ge (p + 1) lv with h | h
            · exact h
            · exfalso
              have e : lv - 1 = p := by omega
              have ha := HLW.out.all
              rw [e, ← HHE.out] at ha
              have := HIFF.out.2 ha
              omega
          go_wp2_with fail
          refine ⟨⟨p + 2, by go_num, by omega, by omega, HB5.out⟩, by simp [intOf]; omega⟩
        · have m1 : decide ((H : Int) ≤ rc) = false := decide_eq_false hle
          have hpl : lv = p + 1 := by
            rcases Nat.lt_or_ge (p + 1) lv with h | h
            · exfalso
              have hw := HIFF.out.1 (by omega)
              rw [HHE.out] at hw
              exact HLW.out.least (p + 1) (by omega) h hw
            · omega
          subst hpl
          have HSA := Lib.hid (same_any s a3 a2 c3 c2 w5 (HSL3.out.below (by omega) HB5.out) (HSL2.out.below (by omega) HB5.out))
          rw [← HSN.out] at HSA
          go_wp2_with fail
          with_reducible refine HSA.out.mono ?_
          rintro e w6 ⟨rfl, hb6⟩
          have HB6 := Lib.hid (HB3.out.trans ((HB5.out.trans (hb6.mono HB5.out.size)).mono HB3.out.size))
          clear hb6
          go_wp2_with fail
          go_ret
          exact ⟨by simp, HB6.out⟩
    · have HM := Lib.hid (made_bad ys a cap w HSY.out hbad (by have := HYL.out; omega))
      rw [← HYN.out] at HM
      obtain ⟨er, her⟩ : ∃ er, er = (tidyF ys).2 := ⟨_, rfl⟩
      rw [← her] at HM hbad
      have HER := Lib.hid her
      have g1 : (er == 0) = false := by simpa using hbad
      have g2 : (er != 0) = true := by simpa using hbad
      clear hbad her
      go_enter Try.func4, Try.ntmps4
      go_wp2_with fail
      with_reducible refine HM.out.mono ?_
      rintro e w1 ⟨⟨b, rfl⟩, hb1⟩
      have HB1 := Lib.hid hb1
      have HT := Lib.hid (refTidy_any ys a cap w1 (HSY.out.below (by omega) hb1))
      unfold Tidied at HT
      rw [← HYN.out, ← HER.out] at HT
      clear hb1
      go_wp2_with fail
      with_reducible refine HT.out.mono ?_
      rintro e w2 ⟨v2, rfl, hb2, _⟩
      have HB2 := Lib.hid (HB1.out.trans (hb2.mono HB1.out.size))
      clear hb2
      go_wp2_with fail
      go_ret
      exact ⟨rfl, HB2.out⟩
section
open Go.ChangeShapes Go.WideShapes Go.ChangeAt
set_option maxRecDepth 100000 in
theorem lifted_quadFroms (os : Os) (started : os.Started) (H : Type) (enc : TypeId × Value → H)
    (walk : ∀ (W : World) (v0 : Value), Is_cells W v0 → Calls Try.prog 4 #[v0] W fun e w' => e = .returned (.bool true) ∧ Below W.heap.size W w') :
    ReturnsInHanded {} Try.checked os 4 .any (Rows.quadFromsSpec.pre6 enc Try.prog Try.f4 Rows.quadFromsRow.domain false) (Rows.quadFromsSpec.post enc Try.prog Try.f4 false true false false) := by
  refine returnsInHanded_of_change_sized (C := Try.checked) own started (by kernel_rfl) Try.func4
    (ChangeSpec.witness6 (enc := enc) (C := Try.checked) false ⟨#[], #[.slice none 0 0], []⟩ 8 (by kernel_rfl) (by kernel_rfl) (by kernel_rfl) (by kernel_rfl)) ?_
  intro W base args ds gs before hval0 hW hcnd hsz0 _
  have hval : ∀ (j : Nat) t v, Try.f4.params[j]? = some t → args[j]? = some v → Value.okWide Try.prog W .any base t v := hval0
  have hW' := hW
  obtain ⟨p, q, hA0, hV, rfl, hfz, hnd⟩ := hW
  have hA : DataW.TrodAll enc Try.prog W 0 (fun _ => true) true Try.f4.params.toList args.toList ds p := hA0
  rw [Try.params4] at hA hval
  obtain ⟨rfl, rfl⟩ := trodVars_none hV
  have hB := hA
  obtain ⟨v0, vs0, d0, ds0, p0, q0, hargs, rfl, rfl, h0, r0⟩ := trodAll_cons hA
  obtain ⟨rfl, rfl, rfl⟩ := trodAll_nil r0
  obtain rfl : args = #[v0] := by cases args; simp_all
  have hsz : (DataW.weightsEach Try.prog [30] [d0]).all (· ≤ reachBytes) = true := hsz0
  have i0 := open_cells (hval 0 30 v0 rfl rfl) h0 (weights_le hsz 0 rfl rfl)
  refine (walk W v0 i0).mono fun e W' ⟨he, bel⟩ => ?_
  subst he
  exact ⟨_, rfl, _, _, _, [], _, [], hW', trodAll_mk1 (shut_bool Try.underlying4 _), trodAll_below laidOut (by kernel_rfl) hB bel, rfl, bel.frame _, fun h => by cases h⟩

theorem over_quadFroms (walk : ∀ (W : World) (v0 : Value), Is_cells W v0 → Calls Try.prog 4 #[v0] W fun e w' => e = .returned (.bool true) ∧ Below W.heap.size W w') :
    Rows.quadFromsRow.holds Try.pinned (OpenSpec.ofChange Rows.quadFromsSpec) :=
  OpenClaim.holds_of_wide 4 Try.f4 rfl rfl rfl rfl rfl rfl rfl ⟨rfl, rfl, rfl, rfl, rfl⟩ rfl rfl rfl rfl rfl (by kernel_rfl) Try.func4 (by kernel_rfl)
    (of_decide_eq_true (by kernel_rfl)) (by unfold Func.isWrapper; first | (rw [if_pos (by decide +kernel)]; kernel_rfl) | (rw [if_neg (by decide +kernel)]; exact ⟨rfl, rfl⟩))
    (fun os started H enc _ => lifted_quadFroms os started H enc walk)
end
theorem quadFroms_proved : Rows.QuadFromsSaid := over_quadFroms fun W _ ⟨zs, ⟨a, cap, e1, hs⟩, _⟩ => by
  subst e1
  exact law_froms zs a cap W hs
end Go.Proofs.Ytdmamecfmfhlmaa
