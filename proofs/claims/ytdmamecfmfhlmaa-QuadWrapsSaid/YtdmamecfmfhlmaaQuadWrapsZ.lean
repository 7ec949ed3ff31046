/-
  For every list of cells (three hundred at the most), the wrapped root has one level more and the same cells, and peels to the root, or the error is told; no condition.
-/
import Derived.Test.YtdmamecfmfhlmaaZQuadWraps49
import Derived.Test.YtdmamecfmfhlmaaZQuadWrapsTidyRef
import Derived.Test.YtdmamecfmfhlmaaZQuadWrapsPuts
namespace Go.Proofs.Ytdmamecfmfhlmaa
set_option maxRecDepth 100000
open Go.RowKit

set_option maxHeartbeats 8000000 in
set_option maxRecDepth 100000 in
theorem law_quadWraps (zs : CellL) (a : Option Addr) (cap : Nat) (w : World) (hs : Sl w 2 16 a zs.length cap (zs.flatMap encCell)) : Calls Try.prog 7 #[.slice a zs.length cap] w fun e w' => e = .returned (.bool true) ∧ Below w.heap.size w w' := by
  obtain ⟨ys, hys⟩ : ∃ ys, ys = zs.take 300 := ⟨_, rfl⟩
  have hyl : ys.length ≤ 300 := by rw [hys, List.length_take]; omega
  obtain ⟨yn, hyn⟩ : ∃ yn, yn = ys.length := ⟨_, rfl⟩
  obtain ⟨n, hn⟩ : ∃ n, n = zs.length := ⟨_, rfl⟩
  have hcut : yn = min 300 n := by rw [hyn, hys, List.length_take, hn]
  have hsy : Sl w 2 16 a ys.length cap (ys.flatMap encCell) := by rw [hys]; exact sl_take hs 300
  rw [← hn]
  have hncap : n ≤ cap := by rw [hn]; exact hs.room
  have HSY := Lib.hid hsy
  have HYN := Lib.hid hyn
  have HYL := Lib.hid hyl
  clear hs hsy hys hn hyn hyl
  by_cases hbig : 300 < n
  · have u1 : decide ((n : Int) > 300) = true := decide_eq_true (by omega)
    have u2 : decide (300 < (n : Int)) = true := decide_eq_true (by omega)
    have u3 : decide (300 < n) = true := decide_eq_true hbig
    have hy : yn = 300 := by omega
    have hc3 : 300 ≤ cap := by omega
    subst hy
    clear hcut
    by_cases hbad : (tidyF ys).2 = 0
    · skip
      have HM := Lib.hid (made_ok ys a cap w HSY.out hbad (by have := HYL.out; omega))
      rw [← HYN.out] at HM
      have HBAD := Lib.hid hbad
      clear hbad
      go_enter Try.func7, Try.ntmps7
      go_wp2_with fail
      with_reducible refine HM.out.mono ?_
      rintro e w1 ⟨b, lev, r, S, F, rfl, hlev, hr, hI, hF, hB, hG, hW, hden, hlive⟩
      have HB1 := Lib.hid hB
      have HI1 := Lib.hid hI
      have HT := Lib.hid (refTidy_any ys a cap w1 (HSY.out.below (by omega) hB))
      unfold Tidied at HT
      rw [← HYN.out, HBAD.out] at HT
      have HLV := Lib.hid hlev
      have HDEN := Lib.hid hden
      have HF1 := Lib.hid hF
      have HG1 := Lib.hid hG
      have HW1 := Lib.hid hW
      have HLIV := Lib.hid hlive
      clear hlev hr hI hF hB hG hW hden hlive
      go_wp2_with fail
      with_reducible refine HT.out.mono ?_
      rintro e w2 ⟨v2, rfl, hb2, ht2⟩
      have HB2 := Lib.hid (HB1.out.trans (hb2.mono HB1.out.size))
      have HI2 := Lib.hid (HI1.out.below hb2)
      obtain ⟨a2, c2, hv2, _, _⟩ := ht2.form
      subst hv2
      have HT2 := Lib.hid ht2
      have HSL2 := Lib.hid (ht2.sl (by have := tidyF_length ys; omega))
      obtain ⟨k, hk⟩ : ∃ k, lev = k + 1 := ⟨lev - 1, by have := HLV.out.lo; omega⟩
      subst hk
      clear hb2 ht2
      have hlen4 := tidyF_length ys
      obtain ⟨s, hsE⟩ : ∃ s, s = (tidyF ys).1 := ⟨_, rfl⟩
      have hden := HDEN.out
      rw [show k + 1 - 1 = k from rfl] at hden
      have hls := HLV.out
      have hb := within_box (by omega) HLV.out.all
      rw [show k + 1 - 1 = k from rfl] at hb
      have hcn := cnt_build hb
      have htb := tidy_build HBAD.out HLV.out
      rw [show k + 1 - 1 = k from rfl] at htb
      have hk40 : 1 ≤ k ∧ k ≤ 40 := by have := HLV.out.hi; have := HLV.out.lo; omega
      have hlv3 := made_bud (c := 100) HG1.out HLIV.out HLV.out.hi (by have := tidyF_first ys HBAD.out; rw [this]; exact Nat.le_trans (sortF_length ys) HYL.out) (by omega)
      obtain ⟨lv, hlv⟩ : ∃ lv : Nat, lv = k + 1 := ⟨_, rfl⟩
      have hlI : ((k + 1 : Nat) : Int) = (lv : Int) := by omega
      obtain ⟨lw, hlw⟩ : ∃ lw : Nat, lw = k + 2 := ⟨_, rfl⟩
      have hlv2 : ((k + 2 : Nat) : Int) = (lw : Int) := by omega
      have hlvb : lv ≤ 41 := by omega
      have hlw1 : (lv : Int) + 1 = (lw : Int) := by omega
      have hlw2 : IntKind.i64.wrap (lw : Int) = (lw : Int) := by rw [IntKind.wrap_i64]; omega
      have hFw1 := HI1.out.lt
      have HFW := Lib.hid (show ∀ i, F i → i < w1.heap.size from hFw1)
      have hsT := HT2.out
      have hs2 := HSL2.out
      rw [← hsE] at hden hls hcn htb hlen4 hsT hs2 ⊢
      obtain ⟨Ta, Tb, Tc, Td, hT⟩ : ∃ a b c d, buildT (k + 1) (-((2 ^ k : Nat) : Int)) (-((2 ^ k : Nat) : Int)) s = .node a b c d := by
        have hf := full_build (k + 1) (-((2 ^ k : Nat) : Int)) (-((2 ^ k : Nat) : Int)) s
        cases h : buildT (k + 1) (-((2 ^ k : Nat) : Int)) (-((2 ^ k : Nat) : Int)) s with
        | leaf _ => rw [h] at hf; exact hf.elim
        | node a b c d => exact ⟨a, b, c, d, rfl⟩
      rw [hT] at hden hcn htb
      have hpw := peel_wrap hls hT
      have hL := level_any b S F ((3 : Nat) : Int) r w2 HI2.out
      rw [hden.levelA HI2.out.ok (by omega), hlI, show ((3 : Nat) : Int) = (3 : Int) from rfl] at hL
      have HL1 := Lib.hid hL
      have hwr := wrap_good b 3 S F r k Ta Tb Tc Td w2 HI2.out HW1.out (by omega) hden (by omega)
      rw [show ((3 : Nat) : Int) = (3 : Int) from rfl] at hwr
      have HWR := Lib.hid hwr
      have HDN := Lib.hid hden
      have HPW := Lib.hid hpw
      have HCN := Lib.hid hcn
      have HTB := Lib.hid htb
      have HBU := Lib.hid hlv3
      have HK40 := Lib.hid hk40
      have HST := Lib.hid hsT
      have HS2 := Lib.hid hs2
      have HL4 := Lib.hid hlen4
      have HLVE := Lib.hid hlv
      have HLV2 := Lib.hid hlv2
      obtain ⟨sn, hsn⟩ : ∃ sn, sn = s.length := ⟨_, rfl⟩
      have HSN := Lib.hid hsn
      rw [← hsn]
      clear hlen4 hsE hden hls hb hcn htb hlv3 hlv hlw hlI hlv2 hsT hs2 hT hpw hL hwr hsn hk40 hFw1
      go_wp2_with fail
      with_reducible refine HL1.out.mono ?_
      rintro e w0 ⟨rfl, rfl⟩
      go_wp2_with fail
      with_reducible refine HWR.out.mono ?_
      rintro e w3 ⟨r3, er3, S3, F3, rfl, hr3, hres3, hden3, -, hI3, hF3, hk3⟩
      have hbb := hres3.bud (k + 2) (by rw [show k + 2 + 5 = (k + 2) + 5 from rfl]; exact HBU.out.less (by have := HK40.out; omega)) rfl
      obtain ⟨he3, hb3⟩ := hbb
      subst he3
      have hd3 := hden3 rfl
      have hL3 := level_any b S3 F3 ((3 : Nat) : Int) r3 w3 hI3
      rw [hd3.levelA hI3.ok (by omega), HLV2.out, show ((3 : Nat) : Int) = (3 : Int) from rfl] at hL3
      have hce := qcells_any b 3 S3 F3 (k + 1) (wrapT k Ta Tb Tc Td) r3 w3 hI3 (by omega) hd3 (by rw [cnt_wrap]; exact Nat.le_trans HCN.out HL4.out) (by have := HK40.out; omega)
      have hpp : (2 : Int) ^ (k + 1) = 2 ^ k + 2 ^ k := by rw [Int.pow_succ]; omega
      have hp1 : ((2 ^ (k + 1) : Nat) : Int) = 2 ^ k + 2 ^ k := by rw [Int.natCast_pow]; exact hpp
      have hp0 : ((2 ^ k : Nat) : Int) = 2 ^ k := by rw [Int.natCast_pow]; rfl
      have htb := HTB.out
      unfold Tidied at hce
      rw [show k + 1 + 1 = k + 2 from rfl, cellsT_wrap, hp1, show -((2 : Int) ^ k + 2 ^ k) + 2 ^ k = -(2 ^ k) by omega, ← hp0, htb, show ((3 : Nat) : Int) = (3 : Int) from rfl] at hce
      have HL3 := Lib.hid hL3
      have HCE := Lib.hid hce
      have HI3 := Lib.hid hI3
      have HD3 := Lib.hid hd3
      have HWF3 := Lib.hid hres3.wf
      have HGR3 := Lib.hid hres3.grew
      have HBU3 := Lib.hid hb3
      have HF3 := Lib.hid hF3
      have HK3 := Lib.hid hk3
      clear hr3 hres3 hden3 hI3 hF3 hk3 hb3 hd3 hL3 hce hpp hp1 hp0 htb
      go_wp2_with fail
      with_reducible refine HL3.out.mono ?_
      rintro e w0' ⟨rfl, rfl⟩
      go_wp2_with fail
      with_reducible refine HCE.out.mono ?_
      rintro e w4 ⟨v4, rfl, hb4, ht4⟩
      obtain ⟨a4, c4, hv4, _, _⟩ := ht4.form
      subst hv4
      have hI4 := HI3.out.below hb4
      have hpe := peel_any b 3 S3 F3 (k + 2) (wrapT k Ta Tb Tc Td) r3 w4 hI4 HWF3.out (by omega) HD3.out (by omega) (by have := HK40.out; omega)
      rw [show ((3 : Nat) : Int) = (3 : Int) from rfl] at hpe
      have HPE := Lib.hid hpe
      have HB4 := Lib.hid hb4
      have HT4 := Lib.hid ht4
      rw [← HSN.out]
      clear hb4 ht4 hI4 hpe
      go_wp2_with fail
      with_reducible refine HPE.out.mono ?_
      rintro e w5 ⟨r5, er5, S5, F5, rfl, hr5, hres5, hden5, -, hI5, hF5, hk5⟩
      have hbb := hres5.bud 0 (by rw [Nat.zero_add]; exact HBU3.out) rfl
      obtain ⟨he5, _⟩ := hbb
      subst he5
      have hd5 := hden5 rfl
      rw [HPW.out.1, HPW.out.2] at hd5
      have hrr : r5 = r := Den.inj hI5.ok hd5 ((HDN.out.ext (HGR3.out.ext 3)).ext (hres5.grew.ext 3))
      subst hrr
      have hw23 := HK3.out.size
      have hw34 := HB4.out.size
      have hst5 : Tight w1.heap.size w5 (.slice a2 s.length c2) s := HST.out.same fun g h1 h2 => by
        rw [hk5.block g (by omega) (fun e => by
          rcases HF3.out g e with e1 | e1
          · have := HFW.out g e1; omega
          · omega), HB4.out.block g (by omega), HK3.out.block g h2 (fun e => by have := HFW.out g e; omega)]
      have hgt5 : Tight w0'.heap.size w5 (.slice a4 s.length c4) s := HT4.out.same fun g h1 h2 => hk5.block g h2 (fun e => by have := HI3.out.lt g e; omega)
      have HSA := Lib.hid (same_any s a4 a2 c4 c2 w5 (hgt5.sl (by have := HL4.out; omega)) (hst5.sl (by have := HL4.out; omega)))
      rw [← HSN.out] at HSA
      have HB5 := Lib.hid (show Below w.heap.size w w5 from HB2.out.trans (((HK3.out.toBelow (B := w.heap.size) (fun i e => HF1.out i e) HB2.out.size).trans (HB4.out.mono (by have := HB2.out.size; omega))).trans (hk5.toBelow (B := w.heap.size) (fun i e => by
        rcases HF3.out i e with e1 | e1
        · exact HF1.out i e1
        · have := HB2.out.size; omega) (by have := HB2.out.size; omega))))
      clear hr5 hres5 hden5 hI5 hF5 hk5 hd5 hst5 hgt5
      go_wp2_with fail
      with_reducible refine HSA.out.mono ?_
      rintro e w6 ⟨rfl, hb6⟩
      have HB6 := Lib.hid (HB5.out.trans (hb6.mono HB5.out.size))
      clear hb6
      go_wp2_with fail
      go_ret
      exact ⟨by simp, HB6.out⟩
    · skip
      have HM := Lib.hid (made_bad ys a cap w HSY.out hbad (by have := HYL.out; omega))
      rw [← HYN.out] at HM
      obtain ⟨er, her⟩ : ∃ er, er = (tidyF ys).2 := ⟨_, rfl⟩
      rw [← her] at HM hbad
      have HER := Lib.hid her
      have g1 : (er == 0) = false := by simpa using hbad
      have g2 : (er != 0) = true := by simpa using hbad
      clear hbad her
      go_enter Try.func7, Try.ntmps7
      go_wp2_with fail
      with_reducible refine HM.out.mono ?_
      rintro e w1 ⟨⟨b, rfl⟩, hb1⟩
      have HB1 := Lib.hid hb1
      have HT := Lib.hid (refTidy_any ys a cap w1 (HSY.out.below (by omega) hb1))
      unfold Tidied at HT
      rw [← HYN.out, ← HER.out] at HT
      clear hb1
      go_wp2_with fail
      with_reducible refine HT.out.mono ?_
      rintro e w2 ⟨v2, rfl, hb2, _⟩
      have HB2 := Lib.hid (HB1.out.trans (hb2.mono HB1.out.size))
      clear hb2
      go_wp2_with fail
      go_ret
      exact ⟨by simp, HB2.out⟩
  · have u1 : decide ((n : Int) > 300) = false := decide_eq_false (by omega)
    have u2 : decide (300 < (n : Int)) = false := decide_eq_false (by omega)
    have u3 : decide (300 < n) = false := decide_eq_false hbig
    have hy : n = yn := by omega
    subst hy
    clear hcut
    by_cases hbad : (tidyF ys).2 = 0
    · skip
      have HM := Lib.hid (made_ok ys a cap w HSY.out hbad (by have := HYL.out; omega))
      rw [← HYN.out] at HM
      have HBAD := Lib.hid hbad
      clear hbad
      go_enter Try.func7, Try.ntmps7
      go_wp2_with fail
      with_reducible refine HM.out.mono ?_
      rintro e w1 ⟨b, lev, r, S, F, rfl, hlev, hr, hI, hF, hB, hG, hW, hden, hlive⟩
      have HB1 := Lib.hid hB
      have HI1 := Lib.hid hI
      have HT := Lib.hid (refTidy_any ys a cap w1 (HSY.out.below (by omega) hB))
      unfold Tidied at HT
      rw [← HYN.out, HBAD.out] at HT
      have HLV := Lib.hid hlev
      have HDEN := Lib.hid hden
      have HF1 := Lib.hid hF
      have HG1 := Lib.hid hG
      have HW1 := Lib.hid hW
      have HLIV := Lib.hid hlive
      clear hlev hr hI hF hB hG hW hden hlive
      go_wp2_with fail
      with_reducible refine HT.out.mono ?_
      rintro e w2 ⟨v2, rfl, hb2, ht2⟩
      have HB2 := Lib.hid (HB1.out.trans (hb2.mono HB1.out.size))
      have HI2 := Lib.hid (HI1.out.below hb2)
      obtain ⟨a2, c2, hv2, _, _⟩ := ht2.form
      subst hv2
      have HT2 := Lib.hid ht2
      have HSL2 := Lib.hid (ht2.sl (by have := tidyF_length ys; omega))
      obtain ⟨k, hk⟩ : ∃ k, lev = k + 1 := ⟨lev - 1, by have := HLV.out.lo; omega⟩
      subst hk
      clear hb2 ht2
      have hlen4 := tidyF_length ys
      obtain ⟨s, hsE⟩ : ∃ s, s = (tidyF ys).1 := ⟨_, rfl⟩
      have hden := HDEN.out
      rw [show k + 1 - 1 = k from rfl] at hden
      have hls := HLV.out
      have hb := within_box (by omega) HLV.out.all
      rw [show k + 1 - 1 = k from rfl] at hb
      have hcn := cnt_build hb
      have htb := tidy_build HBAD.out HLV.out
      rw [show k + 1 - 1 = k from rfl] at htb
      have hk40 : 1 ≤ k ∧ k ≤ 40 := by have := HLV.out.hi; have := HLV.out.lo; omega
      have hlv3 := made_bud (c := 100) HG1.out HLIV.out HLV.out.hi (by have := tidyF_first ys HBAD.out; rw [this]; exact Nat.le_trans (sortF_length ys) HYL.out) (by omega)
      obtain ⟨lv, hlv⟩ : ∃ lv : Nat, lv = k + 1 := ⟨_, rfl⟩
      have hlI : ((k + 1 : Nat) : Int) = (lv : Int) := by omega
      obtain ⟨lw, hlw⟩ : ∃ lw : Nat, lw = k + 2 := ⟨_, rfl⟩
      have hlv2 : ((k + 2 : Nat) : Int) = (lw : Int) := by omega
      have hlvb : lv ≤ 41 := by omega
      have hlw1 : (lv : Int) + 1 = (lw : Int) := by omega
      have hlw2 : IntKind.i64.wrap (lw : Int) = (lw : Int) := by rw [IntKind.wrap_i64]; omega
      have hFw1 := HI1.out.lt
      have HFW := Lib.hid (show ∀ i, F i → i < w1.heap.size from hFw1)
      have hsT := HT2.out
      have hs2 := HSL2.out
      rw [← hsE] at hden hls hcn htb hlen4 hsT hs2 ⊢
      obtain ⟨Ta, Tb, Tc, Td, hT⟩ : ∃ a b c d, buildT (k + 1) (-((2 ^ k : Nat) : Int)) (-((2 ^ k : Nat) : Int)) s = .node a b c d := by
        have hf := full_build (k + 1) (-((2 ^ k : Nat) : Int)) (-((2 ^ k : Nat) : Int)) s
        cases h : buildT (k + 1) (-((2 ^ k : Nat) : Int)) (-((2 ^ k : Nat) : Int)) s with
        | leaf _ => rw [h] at hf; exact hf.elim
        | node a b c d => exact ⟨a, b, c, d, rfl⟩
      rw [hT] at hden hcn htb
      have hpw := peel_wrap hls hT
      have hL := level_any b S F ((3 : Nat) : Int) r w2 HI2.out
      rw [hden.levelA HI2.out.ok (by omega), hlI, show ((3 : Nat) : Int) = (3 : Int) from rfl] at hL
      have HL1 := Lib.hid hL
      have hwr := wrap_good b 3 S F r k Ta Tb Tc Td w2 HI2.out HW1.out (by omega) hden (by omega)
      rw [show ((3 : Nat) : Int) = (3 : Int) from rfl] at hwr
      have HWR := Lib.hid hwr
      have HDN := Lib.hid hden
      have HPW := Lib.hid hpw
      have HCN := Lib.hid hcn
      have HTB := Lib.hid htb
      have HBU := Lib.hid hlv3
      have HK40 := Lib.hid hk40
      have HST := Lib.hid hsT
      have HS2 := Lib.hid hs2
      have HL4 := Lib.hid hlen4
      have HLVE := Lib.hid hlv
      have HLV2 := Lib.hid hlv2
      obtain ⟨sn, hsn⟩ : ∃ sn, sn = s.length := ⟨_, rfl⟩
      have HSN := Lib.hid hsn
      rw [← hsn]
      clear hlen4 hsE hden hls hb hcn htb hlv3 hlv hlw hlI hlv2 hsT hs2 hT hpw hL hwr hsn hk40 hFw1
      go_wp2_with fail
      with_reducible refine HL1.out.mono ?_
      rintro e w0 ⟨rfl, rfl⟩
      go_wp2_with fail
      with_reducible refine HWR.out.mono ?_
      rintro e w3 ⟨r3, er3, S3, F3, rfl, hr3, hres3, hden3, -, hI3, hF3, hk3⟩
      have hbb := hres3.bud (k + 2) (by rw [show k + 2 + 5 = (k + 2) + 5 from rfl]; exact HBU.out.less (by have := HK40.out; omega)) rfl
      obtain ⟨he3, hb3⟩ := hbb
      subst he3
      have hd3 := hden3 rfl
      have hL3 := level_any b S3 F3 ((3 : Nat) : Int) r3 w3 hI3
      rw [hd3.levelA hI3.ok (by omega), HLV2.out, show ((3 : Nat) : Int) = (3 : Int) from rfl] at hL3
      have hce := qcells_any b 3 S3 F3 (k + 1) (wrapT k Ta Tb Tc Td) r3 w3 hI3 (by omega) hd3 (by rw [cnt_wrap]; exact Nat.le_trans HCN.out HL4.out) (by have := HK40.out; omega)
      have hpp : (2 : Int) ^ (k + 1) = 2 ^ k + 2 ^ k := by rw [Int.pow_succ]; omega
      have hp1 : ((2 ^ (k + 1) : Nat) : Int) = 2 ^ k + 2 ^ k := by rw [Int.natCast_pow]; exact hpp
      have hp0 : ((2 ^ k : Nat) : Int) = 2 ^ k := by rw [Int.natCast_pow]; rfl
      have htb := HTB.out
      unfold Tidied at hce
      rw [show k + 1 + 1 = k + 2 from rfl, cellsT_wrap, hp1, show -((2 : Int) ^ k + 2 ^ k) + 2 ^ k = -(2 ^ k) by omega, ← hp0, htb, show ((3 : Nat) : Int) = (3 : Int) from rfl] at hce
      have HL3 := Lib.hid hL3
      have HCE := Lib.hid hce
      have HI3 := Lib.hid hI3
      have HD3 := Lib.hid hd3
      have HWF3 := Lib.hid hres3.wf
      have HGR3 := Lib.hid hres3.grew
      have HBU3 := Lib.hid hb3
      have HF3 := Lib.hid hF3
      have HK3 := Lib.hid hk3
      clear hr3 hres3 hden3 hI3 hF3 hk3 hb3 hd3 hL3 hce hpp hp1 hp0 htb
      go_wp2_with fail
      with_reducible refine HL3.out.mono ?_
      rintro e w0' ⟨rfl, rfl⟩
      go_wp2_with fail
      with_reducible refine HCE.out.mono ?_
      rintro e w4 ⟨v4, rfl, hb4, ht4⟩
      obtain ⟨a4, c4, hv4, _, _⟩ := ht4.form
      subst hv4
      have hI4 := HI3.out.below hb4
      have hpe := peel_any b 3 S3 F3 (k + 2) (wrapT k Ta Tb Tc Td) r3 w4 hI4 HWF3.out (by omega) HD3.out (by omega) (by have := HK40.out; omega)
      rw [show ((3 : Nat) : Int) = (3 : Int) from rfl] at hpe
      have HPE := Lib.hid hpe
      have HB4 := Lib.hid hb4
      have HT4 := Lib.hid ht4
      rw [← HSN.out]
      clear hb4 ht4 hI4 hpe
      go_wp2_with fail
      with_reducible refine HPE.out.mono ?_
      rintro e w5 ⟨r5, er5, S5, F5, rfl, hr5, hres5, hden5, -, hI5, hF5, hk5⟩
      have hbb := hres5.bud 0 (by rw [Nat.zero_add]; exact HBU3.out) rfl
      obtain ⟨he5, _⟩ := hbb
      subst he5
      have hd5 := hden5 rfl
      rw [HPW.out.1, HPW.out.2] at hd5
      have hrr : r5 = r := Den.inj hI5.ok hd5 ((HDN.out.ext (HGR3.out.ext 3)).ext (hres5.grew.ext 3))
      subst hrr
      have hw23 := HK3.out.size
      have hw34 := HB4.out.size
      have hst5 : Tight w1.heap.size w5 (.slice a2 s.length c2) s := HST.out.same fun g h1 h2 => by
        rw [hk5.block g (by omega) (fun e => by
          rcases HF3.out g e with e1 | e1
          · have := HFW.out g e1; omega
          · omega), HB4.out.block g (by omega), HK3.out.block g h2 (fun e => by have := HFW.out g e; omega)]
      have hgt5 : Tight w0'.heap.size w5 (.slice a4 s.length c4) s := HT4.out.same fun g h1 h2 => hk5.block g h2 (fun e => by have := HI3.out.lt g e; omega)
      have HSA := Lib.hid (same_any s a4 a2 c4 c2 w5 (hgt5.sl (by have := HL4.out; omega)) (hst5.sl (by have := HL4.out; omega)))
      rw [← HSN.out] at HSA
      have HB5 := Lib.hid (show Below w.heap.size w w5 from HB2.out.trans (((HK3.out.toBelow (B := w.heap.size) (fun i e => HF1.out i e) HB2.out.size).trans (HB4.out.mono (by have := HB2.out.size; omega))).trans (hk5.toBelow (B := w.heap.size) (fun i e => by
        rcases HF3.out i e with e1 | e1
        · exact HF1.out i e1
        · have := HB2.out.size; omega) (by have := HB2.out.size; omega))))
      clear hr5 hres5 hden5 hI5 hF5 hk5 hd5 hst5 hgt5
      go_wp2_with fail
      with_reducible refine HSA.out.mono ?_
      rintro e w6 ⟨rfl, hb6⟩
      have HB6 := Lib.hid (HB5.out.trans (hb6.mono HB5.out.size))
      clear hb6
      go_wp2_with fail
      go_ret
      exact ⟨by simp, HB6.out⟩
    · skip
      have HM := Lib.hid (made_bad ys a cap w HSY.out hbad (by have := HYL.out; omega))
      rw [← HYN.out] at HM
      obtain ⟨er, her⟩ : ∃ er, er = (tidyF ys).2 := ⟨_, rfl⟩
      rw [← her] at HM hbad
      have HER := Lib.hid her
      have g1 : (er == 0) = false := by simpa using hbad
      have g2 : (er != 0) = true := by simpa using hbad
      clear hbad her
      go_enter Try.func7, Try.ntmps7
      go_wp2_with fail
      with_reducible refine HM.out.mono ?_
      rintro e w1 ⟨⟨b, rfl⟩, hb1⟩
      have HB1 := Lib.hid hb1
      have HT := Lib.hid (refTidy_any ys a cap w1 (HSY.out.below (by omega) hb1))
      unfold Tidied at HT
      rw [← HYN.out, ← HER.out] at HT
      clear hb1
      go_wp2_with fail
      with_reducible refine HT.out.mono ?_
      rintro e w2 ⟨v2, rfl, hb2, _⟩
      have HB2 := Lib.hid (HB1.out.trans (hb2.mono HB1.out.size))
      clear hb2
      go_wp2_with fail
      go_ret
      exact ⟨by simp, HB2.out⟩
section
open Go.ChangeShapes Go.WideShapes Go.ChangeAt
set_option maxRecDepth 100000 in
theorem lifted_quadWraps (os : Os) (started : os.Started) (H : Type) (enc : TypeId × Value → H)
    (walk : ∀ (W : World) (v0 : Value), Is_cells W v0 → Calls Try.prog 7 #[v0] W fun e w' => e = .returned (.bool true) ∧ Below W.heap.size W w') :
    ReturnsInHanded {} Try.checked os 7 .any (Rows.quadWrapsSpec.pre6 enc Try.prog Try.f7 Rows.quadWrapsRow.domain false) (Rows.quadWrapsSpec.post enc Try.prog Try.f7 false true false false) := by
  refine returnsInHanded_of_change_sized (C := Try.checked) own started (by kernel_rfl) Try.func7
    (ChangeSpec.witness6 (enc := enc) (C := Try.checked) false ⟨#[], #[.slice none 0 0], []⟩ 8 (by kernel_rfl) (by kernel_rfl) (by kernel_rfl) (by kernel_rfl)) ?_
  intro W base args ds gs before hval0 hW hcnd hsz0 _
  have hval : ∀ (j : Nat) t v, Try.f7.params[j]? = some t → args[j]? = some v → Value.okWide Try.prog W .any base t v := hval0
  have hW' := hW
  obtain ⟨p, q, hA0, hV, rfl, hfz, hnd⟩ := hW
  have hA : DataW.TrodAll enc Try.prog W 0 (fun _ => true) true Try.f7.params.toList args.toList ds p := hA0
  rw [Try.params7] at hA hval
  obtain ⟨rfl, rfl⟩ := trodVars_none hV
  have hB := hA
  obtain ⟨v0, vs0, d0, ds0, p0, q0, hargs, rfl, rfl, h0, r0⟩ := trodAll_cons hA
  obtain ⟨rfl, rfl, rfl⟩ := trodAll_nil r0
  obtain rfl : args = #[v0] := by cases args; simp_all
  have hsz : (DataW.weightsEach Try.prog [30] [d0]).all (· ≤ reachBytes) = true := hsz0
  have i0 := open_cells (hval 0 30 v0 rfl rfl) h0 (weights_le hsz 0 rfl rfl)
  refine (walk W v0 i0).mono fun e W' ⟨he, bel⟩ => ?_
  subst he
  exact ⟨_, rfl, _, _, _, [], _, [], hW', trodAll_mk1 (shut_bool Try.underlying4 _), trodAll_below laidOut (by kernel_rfl) hB bel, rfl, bel.frame _, fun h => by cases h⟩

theorem over_quadWraps (walk : ∀ (W : World) (v0 : Value), Is_cells W v0 → Calls Try.prog 7 #[v0] W fun e w' => e = .returned (.bool true) ∧ Below W.heap.size W w') :
    Rows.quadWrapsRow.holds Try.pinned (OpenSpec.ofChange Rows.quadWrapsSpec) :=
  OpenClaim.holds_of_wide 7 Try.f7 rfl rfl rfl rfl rfl rfl rfl ⟨rfl, rfl, rfl, rfl, rfl⟩ rfl rfl rfl rfl rfl (by kernel_rfl) Try.func7 (by kernel_rfl)
    (of_decide_eq_true (by kernel_rfl)) (by unfold Func.isWrapper; first | (rw [if_pos (by decide +kernel)]; kernel_rfl) | (rw [if_neg (by decide +kernel)]; exact ⟨rfl, rfl⟩))
    (fun os started H enc _ => lifted_quadWraps os started H enc walk)
end
theorem quadWraps_proved : Rows.QuadWrapsSaid := over_quadWraps fun W _ ⟨zs, ⟨a, cap, e1, hs⟩, _⟩ => by
  subst e1
  exact law_quadWraps zs a cap W hs
end Go.Proofs.Ytdmamecfmfhlmaa
