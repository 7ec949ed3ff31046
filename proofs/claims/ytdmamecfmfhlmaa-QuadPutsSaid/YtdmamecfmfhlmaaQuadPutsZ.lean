/-
  For all lists of cells (three hundred at the most) and cells, Put makes a root of the same level with just that cell alive or dead, or refuses what the root does not reach, or the list's error is told; no condition.
-/
import Derived.Test.YtdmamecfmfhlmaaZQuadPuts47
import Derived.Test.YtdmamecfmfhlmaaZQuadPutsQMerge
import Derived.Test.YtdmamecfmfhlmaaZQuadPuts49
import Derived.Test.YtdmamecfmfhlmaaZQuadPutsPuts
import Derived.Test.YtdmamecfmfhlmaaKinds2
namespace Go.Proofs.Ytdmamecfmfhlmaa
set_option maxRecDepth 100000
open Go.RowKit

set_option maxHeartbeats 8000000 in
set_option maxRecDepth 100000 in
theorem law_quadPuts (zs : CellL) (a : Option Addr) (cap : Nat) (w : World) (cx cy : Int) (al : Bool) (hc64 : I64 cx ∧ I64 cy) (hs : Sl w 2 16 a zs.length cap (zs.flatMap encCell)) : Calls Try.prog 5 #[.slice a zs.length cap, .agg #[.int .i64 cx, .int .i64 cy], .bool al] w fun e w' => e = .returned (.bool true) ∧ Below w.heap.size w w' := by
  obtain ⟨ys, hys⟩ : ∃ ys, ys = zs.take 300 := ⟨_, rfl⟩
  have hyl : ys.length ≤ 300 := by rw [hys, List.length_take]; omega
  obtain ⟨yn, hyn⟩ : ∃ yn, yn = ys.length := ⟨_, rfl⟩
  obtain ⟨n, hn⟩ : ∃ n, n = zs.length := ⟨_, rfl⟩
  have hcut : yn = min 300 n := by rw [hyn, hys, List.length_take, hn]
  have hsy : Sl w 2 16 a ys.length cap (ys.flatMap encCell) := by rw [hys]; exact sl_take hs 300
  rw [← hn]
  have hncap : n ≤ cap := by rw [hn]; exact hs.room
  have HSY := Lib.hid hsy
  have HYN := Lib.hid hyn
  have HYL := Lib.hid hyl
  obtain ⟨X0, hX0⟩ : ∃ X, X = w.alloc (.cells #[.int .i64 cx, .int .i64 cy] 39 (0, 0)) := ⟨_, rfl⟩
  have hbX0 : Below w.heap.size w X0 := by rw [hX0]; exact (Below.refl _ _).alloc (Nat.le_refl _) _
  have HCB := Lib.hid (show X0.heap[w.heap.size]? = some (.cells #[.int .i64 cx, .int .i64 cy] 39 (0, 0)) by rw [hX0]; exact blk_last w _ rfl)
  have HXS := Lib.hid (show X0.heap.size = w.heap.size + 1 by rw [hX0]; simp)
  have HBX0 := Lib.hid hbX0
  have HX0 := Lib.hid hX0
  have HC64 := Lib.hid hc64
  have HSY := Lib.hid (hsy.below (by omega) hbX0)
  clear hbX0 hX0 hc64
  clear hs hsy hys hn hyn hyl
  by_cases hbig : 300 < n
  · have u1 : decide ((n : Int) > 300) = true := decide_eq_true (by omega)
    have u2 : decide (300 < (n : Int)) = true := decide_eq_true (by omega)
    have u3 : decide (300 < n) = true := decide_eq_true hbig
    have hy : yn = 300 := by omega
    have hc3 : 300 ≤ cap := by omega
    subst hy
    clear hcut
    by_cases hbad : (tidyF ys).2 = 0
    · skip
      have HM := Lib.hid (made_ok ys a cap X0 HSY.out hbad (by have := HYL.out; omega))
      rw [← HYN.out] at HM
      have HBAD := Lib.hid hbad
      clear hbad
      go_enter Try.func5, Try.ntmps5
      go_upto_region 1 with fail
      rw [← HX0.out]
      go_wp2_with fail
      with_reducible refine HM.out.mono ?_
      rintro e w1 ⟨b, lev, r, S, F, rfl, hlev, hr, hI, hF, hB, hG, hW, hden, hlive⟩
      have HB2X := Lib.hid hB
      have HSZ1 := Lib.hid hB.size
      have HB1 := Lib.hid (HBX0.out.trans (hB.mono HBX0.out.size))
      have HI1 := Lib.hid hI
      have HT := Lib.hid (refTidy_any ys a cap w1 (HSY.out.below (by omega) hB))
      unfold Tidied at HT
      rw [← HYN.out, HBAD.out] at HT
      have HLV := Lib.hid hlev
      have HDEN := Lib.hid hden
      have HF1 := Lib.hid hF
      have HG1 := Lib.hid hG
      have HW1 := Lib.hid hW
      have HLIV := Lib.hid hlive
      clear hlev hr hI hF hB hG hW hden hlive
      go_wp2_with fail
      with_reducible refine HT.out.mono ?_
      rintro e w2 ⟨v2, rfl, hb2, ht2⟩
      have HB2 := Lib.hid (HB1.out.trans (hb2.mono HB1.out.size))
      have HI2 := Lib.hid (HI1.out.below hb2)
      obtain ⟨a2, c2, hv2, _, _⟩ := ht2.form
      subst hv2
      have HT2 := Lib.hid ht2
      have HSL2 := Lib.hid (ht2.sl (by have := tidyF_length ys; omega))
      obtain ⟨k, hk⟩ : ∃ k, lev = k + 1 := ⟨lev - 1, by have := HLV.out.lo; omega⟩
      subst hk
      have HB2C := Lib.hid (show w2.heap[w.heap.size]? = X0.heap[w.heap.size]? from (hb2.block _ (Nat.lt_of_lt_of_le (lt_of_block HCB.out) HSZ1.out)).trans (HB2X.out.block _ (lt_of_block HCB.out)))
      clear hb2 ht2
      have hlen4 := tidyF_length ys
      obtain ⟨s, hsE⟩ : ∃ s, s = (tidyF ys).1 := ⟨_, rfl⟩
      have hden := HDEN.out
      rw [show k + 1 - 1 = k from rfl] at hden
      have hls := HLV.out
      have hb := within_box (by omega) HLV.out.all
      rw [show k + 1 - 1 = k from rfl] at hb
      have hcn := cnt_build hb
      have htb := tidy_build HBAD.out HLV.out
      rw [show k + 1 - 1 = k from rfl] at htb
      have hls3 : (tidyF ys).1.length ≤ 300 := by have := tidyF_first ys HBAD.out; rw [this]; exact Nat.le_trans (sortF_length ys) HYL.out
      have hk40 : 1 ≤ k ∧ k ≤ 40 := by have := HLV.out.hi; have := HLV.out.lo; omega
      have hlv3 := made_bud (c := 100) HG1.out HLIV.out HLV.out.hi (by have := tidyF_first ys HBAD.out; rw [this]; exact Nat.le_trans (sortF_length ys) HYL.out) (by omega)
      obtain ⟨lv, hlv⟩ : ∃ lv : Nat, lv = k + 1 := ⟨_, rfl⟩
      have hlI : ((k + 1 : Nat) : Int) = (lv : Int) := by omega
      obtain ⟨lw, hlw⟩ : ∃ lw : Nat, lw = k + 2 := ⟨_, rfl⟩
      have hlv2 : ((k + 2 : Nat) : Int) = (lw : Int) := by omega
      have hlvb : lv ≤ 41 := by omega
      have hlw1 : (lv : Int) + 1 = (lw : Int) := by omega
      have hlw2 : IntKind.i64.wrap (lw : Int) = (lw : Int) := by rw [IntKind.wrap_i64]; omega
      have hFw1 := HI1.out.lt
      have HFW := Lib.hid (show ∀ i, F i → i < w1.heap.size from hFw1)
      have hsT := HT2.out
      have hs2 := HSL2.out
      have hcl := hlen4
      have hptd := fun (c : Int × Int) (al : Bool) (keep : Bool → Bool → Bool) (h1 : -((2 ^ k : Nat) : Int) ≤ c.1 ∧ c.1 < ((2 ^ k : Nat) : Int) ∧ -((2 ^ k : Nat) : Int) ≤ c.2 ∧ c.2 < ((2 ^ k : Nat) : Int)) (h2 : ∀ p q, keep p q = if q then al else p) (h3 : farC c = false) => put_tidy HBAD.out HYL.out HLV.out h1 h2 h3
      have hmo := fun (c : Int × Int) (keep : Bool → Bool → Bool) => merge_one (keep := keep) (c := c) HBAD.out HYL.out
      rw [← hsE] at hden hls hls3 hcn htb hlen4 hsT hs2 hptd hmo ⊢
      have HLE3 := Lib.hid hls3
      obtain ⟨T, hT⟩ : ∃ T, T = buildT (k + 1) (-((2 ^ k : Nat) : Int)) (-((2 ^ k : Nat) : Int)) s := ⟨_, rfl⟩
      rw [← hT] at hden hcn htb hptd
      obtain ⟨H, hH⟩ : ∃ H : Nat, H = 2 ^ k := ⟨_, rfl⟩
      have hHI : (2 : Int) ^ k = (H : Int) := by rw [hH, Int.natCast_pow]; rfl
      have hHb : H ≤ 1099511627776 := by
        have : 2 ^ k ≤ 2 ^ 40 := Nat.pow_le_pow_right (by omega) (by omega)
        omega
      have hwr : IntKind.i64.wrap (2 ^ k) = (H : Int) := by rw [hHI, IntKind.wrap_i64]; omega
      have hlm : (lv : Int) - 1 = (k : Int) := by omega
      have hL := fun (S' : ArS) (F' : Nat → Prop) (id : Int) (W : World) (T' : Tree) (hi : IsAr b S' W F') (hd : Den S'.L 3 (k + 1) T' id) => (by
        have h := level_any b S' F' ((3 : Nat) : Int) id W hi
        rw [hd.levelA hi.ok (by omega), hlI, show ((3 : Nat) : Int) = (3 : Int) from rfl] at h
        exact h : Calls Try.prog 12 #[.pointer (some ⟨b, 0, none⟩), .int .i64 3, .int .i64 id] W fun e w' => e = .returned (.tuple #[.int .i64 lv, .int .i64 0]) ∧ w' = W)
      have HL := Lib.hid hL
      have HL1 := Lib.hid (hL S F r w2 T HI2.out hden)
      have HDN := Lib.hid hden
      have HCN := Lib.hid hcn
      have HBU := Lib.hid hlv3
      have HK40 := Lib.hid hk40
      have HST := Lib.hid hsT
      have HS2 := Lib.hid hs2
      have HL4 := Lib.hid hlen4
      have HPTD := Lib.hid hptd
      have HMO := Lib.hid hmo
      have HHE := Lib.hid hH
      obtain ⟨sn, hsn⟩ : ∃ sn, sn = s.length := ⟨_, rfl⟩
      have HSN := Lib.hid hsn
      rw [← hsn]
      have hlvb : lv ≤ 41 := by omega
      have HBX2 := Lib.hid (show X0.heap.size ≤ w1.heap.size from HSZ1.out)
      have hcb2 := ((HB2C.out).trans HCB.out)
      have k0 := Joins.cell_of_block hcb2 0
      have k1 := Joins.cell_of_block hcb2 1
      simp at k0 k1
      have HCB2 := Lib.hid hcb2
      clear hlen4 hcl hsE hden hls hls3 hb hcn htb hlv3 hlv hlI hlv2 hsT hs2 hptd hmo hT hH hHI hL hsn hk40 hFw1 hcb2
      try clear hlw hlw1 hlw2
      go_wp2_with fail
      with_reducible refine HL1.out.mono ?_
      rintro e w0 ⟨rfl, rfl⟩
      by_cases hin : -(H : Int) ≤ cx ∧ cx < (H : Int) ∧ -(H : Int) ≤ cy ∧ cy < (H : Int)
      · cases al with
        | true =>
          have hpi := qput_in (al := true) HI2.out HW1.out (by omega) HDN.out (by have := HK40.out; omega) HC64.out (by rw [← HHE.out]; exact hin)
          rw [← HHE.out, show ((3 : Nat) : Int) = (3 : Int) from rfl] at hpi
          have HPI := Lib.hid hpi
          have HPT2 := Lib.hid (HPTD.out (cx, cy) true)
          have d0 : decide (cx < -(H : Int)) = false := decide_eq_false (by omega)
          have d1 : decide (cx ≥ (H : Int)) = false := decide_eq_false (by omega)
          have d1' : decide ((H : Int) ≤ cx) = false := decide_eq_false (by omega)
          have d2 : decide (cy < -(H : Int)) = false := decide_eq_false (by omega)
          have d3 : decide (cy ≥ (H : Int)) = false := decide_eq_false (by omega)
          have d3' : decide ((H : Int) ≤ cy) = false := decide_eq_false (by omega)
          have HIN := Lib.hid hin
          clear hpi hin
          go_wp2_with fail
          with_reducible refine HPI.out.mono ?_
          rintro e w3 ⟨r3, er3, S3, F3, rfl, hr3, hres3, hden3, -, hI3, hF3, hk3⟩
          have hbb := hres3.bud 0 (by rw [Nat.zero_add]; exact HBU.out.less (by have := HK40.out; omega)) rfl
          obtain ⟨he3, -⟩ := hbb
          subst he3
          have hd3 := hden3 rfl
          have hHW2 := HB2.out.size
          have hcb3 := (hk3.block w.heap.size (lt_of_block HCB2.out) (fun e => by have := HF1.out _ e; have := HXS.out; omega)).trans HCB2.out
          have k2 := Joins.cell_of_block hcb3 0
          have k3 := Joins.cell_of_block hcb3 1
          simp at k2 k3
          have hB3 := HB2.out.trans (hk3.toBelow (B := w.heap.size) (fun i e => by have := HF1.out i e; have := HXS.out; omega) hHW2)
          have hst3 : Tight w1.heap.size w3 (.slice a2 s.length c2) s := HST.out.same fun g h1 h2 => hk3.block g h2 (fun e => by have := HFW.out g e; omega)
          have hs3 := hst3.sl (by have := HL4.out; omega)
          obtain ⟨X3, hX3⟩ : ∃ X, X = w3.alloc (.cells #[.int .i64 cx, .int .i64 cy] 39 (0, 0)) := ⟨_, rfl⟩
          have hbX3 : Below w3.heap.size w3 X3 := by rw [hX3]; exact (Below.refl _ _).alloc (Nat.le_refl _) _
          have hone : Sl X3 2 16 (some ⟨w3.heap.size, 0, none⟩) [(cx, cy)].length 1 ([(cx, cy)].flatMap encCell) := sl_one (by rw [hX3]; exact blk_last w3 _ rfl)
          have hun := refUnion_any s [(cx, cy)] a2 (some ⟨w3.heap.size, 0, none⟩) c2 1 X3 (hs3.below (by omega) hbX3) hone
          unfold Picked at hun
          rw [HMO.out] at hun
          rw [← HSN.out, show [(cx, cy)].length = 1 from rfl] at hun
          have hcnt : cnt (putT (k + 1) (cx + (H : Int)) (cy + (H : Int)) true T) ≤ 4096 := by
            have h1 := cnt_put (x := cx + (H : Int)) (y := cy + (H : Int)) (al := true) HDN.out.full
            have h2 := HCN.out
            have h3 := HLE3.out
            omega
          have hce := fun (W : World) (hi : IsAr b S3 W F3) => qcells_any b 3 S3 F3 k (putT (k + 1) (cx + (H : Int)) (cy + (H : Int)) true T) r3 W hi (by omega) hd3 hcnt (by have := HK40.out; omega)
          rw [← HHE.out, show ((3 : Nat) : Int) = (3 : Int) from rfl] at hce
          have HCE := Lib.hid hce
          have HUN := Lib.hid hun
          have HL3 := Lib.hid (fun (W : World) (hi : IsAr b S3 W F3) => HL.out S3 F3 r3 W _ hi hd3)
          have HI3 := Lib.hid (hI3.below hbX3)
          have HB3 := Lib.hid (hB3.trans (hbX3.mono hB3.size))
          have HX3 := Lib.hid hX3
          have HST3 := Lib.hid (hst3.below hbX3)
          clear hr3 hres3 hden3 hI3 hF3 hk3 hd3 hHW2 hcb3 hB3 hst3 hs3 hX3 hbX3 hone hun hcnt hce
          go_wp2_with fail
          rw [← HX3.out]
          cases hfar : farC (cx, cy) with
          | true =>
            have HUF := HUN.out
            rw [hfar, if_pos rfl] at HUF
            have HUF := Lib.hid HUF
            clear hfar
            with_reducible refine HUF.out.mono ?_
            rintro e w4 ⟨v4, rfl, hb4, ht4⟩
            obtain ⟨a4, c4, hv4, -, -⟩ := ht4.form
            subst hv4
            have HB4 := Lib.hid (HB3.out.trans (hb4.mono HB3.out.size))
            have HI4 := Lib.hid (HI3.out.below hb4)
            have HCE4 := Lib.hid (HCE.out w4 HI4.out)
            unfold Tidied at HCE4
            obtain ⟨er4, her4⟩ : ∃ x, x = (tidyF (cellsT (k + 1) (putT (k + 1) (cx + (H : Int)) (cy + (H : Int)) true T) (-(H : Int)) (-(H : Int)))).2 := ⟨_, rfl⟩
            rw [← her4] at HCE4
            clear hb4 ht4 her4
            go_wp2_with fail
            with_reducible refine HCE4.out.mono ?_
            rintro e w5 ⟨v5, rfl, hb5, ht5⟩
            obtain ⟨a5, c5, hv5, -, -⟩ := ht5.form
            subst hv5
            have HB5 := Lib.hid (HB4.out.trans (hb5.mono HB4.out.size))
            have HL5 := Lib.hid (HL3.out w5 (HI4.out.below hb5))
            obtain ⟨n5, hn5⟩ : ∃ x, x = (tidyF (cellsT (k + 1) (putT (k + 1) (cx + (H : Int)) (cy + (H : Int)) true T) (-(H : Int)) (-(H : Int)))).1.length := ⟨_, rfl⟩
            rw [← hn5]
            clear hb5 ht5 hn5
            go_wp2_with fail
            with_reducible refine HL5.out.mono ?_
            rintro e w6 ⟨rfl, rfl⟩
            go_wp2_with fail
            go_ret
            exact ⟨by simp, HB5.out⟩
          | false =>
            have HUF := HUN.out
            rw [hfar, if_neg (by decide)] at HUF
            have HUF := Lib.hid HUF
            have hpt := HPT2.out keepOr (by rw [← HHE.out]; exact HIN.out) (by intro p q; cases p <;> cases q <;> rfl) hfar
            try simp only at hpt
            rw [← HHE.out] at hpt
            have HPT := Lib.hid hpt
            clear hfar hpt
            with_reducible refine HUF.out.mono ?_
            rintro e w4 ⟨v4, rfl, hb4, ht4⟩
            obtain ⟨a4, c4, hv4, -, -⟩ := ht4.form
            subst hv4
            have HB4 := Lib.hid (HB3.out.trans (hb4.mono HB3.out.size))
            have HI4 := Lib.hid (HI3.out.below hb4)
            have HCE4 := Lib.hid (HCE.out w4 HI4.out)
            unfold Tidied at HCE4
            rw [HPT.out] at HCE4
            obtain ⟨m, hm⟩ : ∃ m, m = pickF keepOr s [(cx, cy)] := ⟨_, rfl⟩
            have hm4 : m.length ≤ 4096 := by
              have h1 := tidyF_length (cellsT (k + 1) (putT (k + 1) (cx + (H : Int)) (cy + (H : Int)) true T) (-(H : Int)) (-(H : Int)))
              rw [HPT.out] at h1
              rw [hm]; exact h1
            simp only at HCE4 ht4
            rw [← hm] at HCE4 ht4
            obtain ⟨mn, hmn⟩ : ∃ mn, mn = m.length := ⟨_, rfl⟩
            have HMN := Lib.hid hmn
            have HM4 := Lib.hid hm4
            have HT4 := Lib.hid ht4
            try rw [← hm]
            rw [← hmn]
            clear hb4 ht4 hm hmn hm4
            go_wp2_with fail
            with_reducible refine HCE4.out.mono ?_
            rintro e w5 ⟨v5, rfl, hb5, ht5⟩
            obtain ⟨a5, c5, hv5, -, -⟩ := ht5.form
            subst hv5
            have HB5 := Lib.hid (HB4.out.trans (hb5.mono HB4.out.size))
            have HL5 := Lib.hid (HL3.out w5 (HI4.out.below hb5))
            have hsa := same_any m a5 a4 c5 c4 w5 (ht5.sl (by have := HM4.out; omega)) ((HT4.out.below hb5).sl (by have := HM4.out; omega))
            rw [← HMN.out] at hsa
            rw [← HMN.out]
            have HSA := Lib.hid hsa
            clear hb5 ht5 hsa
            go_wp2_with fail
            with_reducible refine HL5.out.mono ?_
            rintro e w6 ⟨rfl, rfl⟩
            go_wp2_with fail
            with_reducible refine HSA.out.mono ?_
            rintro e w7 ⟨rfl, hb7⟩
            have HB7 := Lib.hid (HB5.out.trans (hb7.mono HB5.out.size))
            clear hb7
            go_wp2_with fail
            go_ret
            exact ⟨by simp, HB7.out⟩
        | false =>
          have hpi := qput_in (al := false) HI2.out HW1.out (by omega) HDN.out (by have := HK40.out; omega) HC64.out (by rw [← HHE.out]; exact hin)
          rw [← HHE.out, show ((3 : Nat) : Int) = (3 : Int) from rfl] at hpi
          have HPI := Lib.hid hpi
          have HPT2 := Lib.hid (HPTD.out (cx, cy) false)
          have d0 : decide (cx < -(H : Int)) = false := decide_eq_false (by omega)
          have d1 : decide (cx ≥ (H : Int)) = false := decide_eq_false (by omega)
          have d1' : decide ((H : Int) ≤ cx) = false := decide_eq_false (by omega)
          have d2 : decide (cy < -(H : Int)) = false := decide_eq_false (by omega)
          have d3 : decide (cy ≥ (H : Int)) = false := decide_eq_false (by omega)
          have d3' : decide ((H : Int) ≤ cy) = false := decide_eq_false (by omega)
          have HIN := Lib.hid hin
          clear hpi hin
          go_wp2_with fail
          with_reducible refine HPI.out.mono ?_
          rintro e w3 ⟨r3, er3, S3, F3, rfl, hr3, hres3, hden3, -, hI3, hF3, hk3⟩
          have hbb := hres3.bud 0 (by rw [Nat.zero_add]; exact HBU.out.less (by have := HK40.out; omega)) rfl
          obtain ⟨he3, -⟩ := hbb
          subst he3
          have hd3 := hden3 rfl
          have hHW2 := HB2.out.size
          have hcb3 := (hk3.block w.heap.size (lt_of_block HCB2.out) (fun e => by have := HF1.out _ e; have := HXS.out; omega)).trans HCB2.out
          have k2 := Joins.cell_of_block hcb3 0
          have k3 := Joins.cell_of_block hcb3 1
          simp at k2 k3
          have hB3 := HB2.out.trans (hk3.toBelow (B := w.heap.size) (fun i e => by have := HF1.out i e; have := HXS.out; omega) hHW2)
          have hst3 : Tight w1.heap.size w3 (.slice a2 s.length c2) s := HST.out.same fun g h1 h2 => hk3.block g h2 (fun e => by have := HFW.out g e; omega)
          have hs3 := hst3.sl (by have := HL4.out; omega)
          obtain ⟨X3, hX3⟩ : ∃ X, X = w3.alloc (.cells #[.int .i64 cx, .int .i64 cy] 39 (0, 0)) := ⟨_, rfl⟩
          have hbX3 : Below w3.heap.size w3 X3 := by rw [hX3]; exact (Below.refl _ _).alloc (Nat.le_refl _) _
          have hone : Sl X3 2 16 (some ⟨w3.heap.size, 0, none⟩) [(cx, cy)].length 1 ([(cx, cy)].flatMap encCell) := sl_one (by rw [hX3]; exact blk_last w3 _ rfl)
          have hun := refMinus_any s [(cx, cy)] a2 (some ⟨w3.heap.size, 0, none⟩) c2 1 X3 (hs3.below (by omega) hbX3) hone
          unfold Picked at hun
          rw [HMO.out] at hun
          rw [← HSN.out, show [(cx, cy)].length = 1 from rfl] at hun
          have hcnt : cnt (putT (k + 1) (cx + (H : Int)) (cy + (H : Int)) false T) ≤ 4096 := by
            have h1 := cnt_put (x := cx + (H : Int)) (y := cy + (H : Int)) (al := false) HDN.out.full
            have h2 := HCN.out
            have h3 := HLE3.out
            omega
          have hce := fun (W : World) (hi : IsAr b S3 W F3) => qcells_any b 3 S3 F3 k (putT (k + 1) (cx + (H : Int)) (cy + (H : Int)) false T) r3 W hi (by omega) hd3 hcnt (by have := HK40.out; omega)
          rw [← HHE.out, show ((3 : Nat) : Int) = (3 : Int) from rfl] at hce
          have HCE := Lib.hid hce
          have HUN := Lib.hid hun
          have HL3 := Lib.hid (fun (W : World) (hi : IsAr b S3 W F3) => HL.out S3 F3 r3 W _ hi hd3)
          have HI3 := Lib.hid (hI3.below hbX3)
          have HB3 := Lib.hid (hB3.trans (hbX3.mono hB3.size))
          have HX3 := Lib.hid hX3
          have HST3 := Lib.hid (hst3.below hbX3)
          clear hr3 hres3 hden3 hI3 hF3 hk3 hd3 hHW2 hcb3 hB3 hst3 hs3 hX3 hbX3 hone hun hcnt hce
          go_wp2_with fail
          rw [← HX3.out]
          cases hfar : farC (cx, cy) with
          | true =>
            have HUF := HUN.out
            rw [hfar, if_pos rfl] at HUF
            have HUF := Lib.hid HUF
            clear hfar
            with_reducible refine HUF.out.mono ?_
            rintro e w4 ⟨v4, rfl, hb4, ht4⟩
            obtain ⟨a4, c4, hv4, -, -⟩ := ht4.form
            subst hv4
            have HB4 := Lib.hid (HB3.out.trans (hb4.mono HB3.out.size))
            have HI4 := Lib.hid (HI3.out.below hb4)
            have HCE4 := Lib.hid (HCE.out w4 HI4.out)
            unfold Tidied at HCE4
            obtain ⟨er4, her4⟩ : ∃ x, x = (tidyF (cellsT (k + 1) (putT (k + 1) (cx + (H : Int)) (cy + (H : Int)) false T) (-(H : Int)) (-(H : Int)))).2 := ⟨_, rfl⟩
            rw [← her4] at HCE4
            clear hb4 ht4 her4
            go_wp2_with fail
            with_reducible refine HCE4.out.mono ?_
            rintro e w5 ⟨v5, rfl, hb5, ht5⟩
            obtain ⟨a5, c5, hv5, -, -⟩ := ht5.form
            subst hv5
            have HB5 := Lib.hid (HB4.out.trans (hb5.mono HB4.out.size))
            have HL5 := Lib.hid (HL3.out w5 (HI4.out.below hb5))
            obtain ⟨n5, hn5⟩ : ∃ x, x = (tidyF (cellsT (k + 1) (putT (k + 1) (cx + (H : Int)) (cy + (H : Int)) false T) (-(H : Int)) (-(H : Int)))).1.length := ⟨_, rfl⟩
            rw [← hn5]
            clear hb5 ht5 hn5
            go_wp2_with fail
            with_reducible refine HL5.out.mono ?_
            rintro e w6 ⟨rfl, rfl⟩
            go_wp2_with fail
            go_ret
            exact ⟨by simp, HB5.out⟩
          | false =>
            have HUF := HUN.out
            rw [hfar, if_neg (by decide)] at HUF
            have HUF := Lib.hid HUF
            have hpt := HPT2.out keepMinus (by rw [← HHE.out]; exact HIN.out) (by intro p q; cases p <;> cases q <;> rfl) hfar
            try simp only at hpt
            rw [← HHE.out] at hpt
            have HPT := Lib.hid hpt
            clear hfar hpt
            with_reducible refine HUF.out.mono ?_
            rintro e w4 ⟨v4, rfl, hb4, ht4⟩
            obtain ⟨a4, c4, hv4, -, -⟩ := ht4.form
            subst hv4
            have HB4 := Lib.hid (HB3.out.trans (hb4.mono HB3.out.size))
            have HI4 := Lib.hid (HI3.out.below hb4)
            have HCE4 := Lib.hid (HCE.out w4 HI4.out)
            unfold Tidied at HCE4
            rw [HPT.out] at HCE4
            obtain ⟨m, hm⟩ : ∃ m, m = pickF keepMinus s [(cx, cy)] := ⟨_, rfl⟩
            have hm4 : m.length ≤ 4096 := by
              have h1 := tidyF_length (cellsT (k + 1) (putT (k + 1) (cx + (H : Int)) (cy + (H : Int)) false T) (-(H : Int)) (-(H : Int)))
              rw [HPT.out] at h1
              rw [hm]; exact h1
            simp only at HCE4 ht4
            rw [← hm] at HCE4 ht4
            obtain ⟨mn, hmn⟩ : ∃ mn, mn = m.length := ⟨_, rfl⟩
            have HMN := Lib.hid hmn
            have HM4 := Lib.hid hm4
            have HT4 := Lib.hid ht4
            try rw [← hm]
            rw [← hmn]
            clear hb4 ht4 hm hmn hm4
            go_wp2_with fail
            with_reducible refine HCE4.out.mono ?_
            rintro e w5 ⟨v5, rfl, hb5, ht5⟩
            obtain ⟨a5, c5, hv5, -, -⟩ := ht5.form
            subst hv5
            have HB5 := Lib.hid (HB4.out.trans (hb5.mono HB4.out.size))
            have HL5 := Lib.hid (HL3.out w5 (HI4.out.below hb5))
            have hsa := same_any m a5 a4 c5 c4 w5 (ht5.sl (by have := HM4.out; omega)) ((HT4.out.below hb5).sl (by have := HM4.out; omega))
            rw [← HMN.out] at hsa
            rw [← HMN.out]
            have HSA := Lib.hid hsa
            clear hb5 ht5 hsa
            go_wp2_with fail
            with_reducible refine HL5.out.mono ?_
            rintro e w6 ⟨rfl, rfl⟩
            go_wp2_with fail
            with_reducible refine HSA.out.mono ?_
            rintro e w7 ⟨rfl, hb7⟩
            have HB7 := Lib.hid (HB5.out.trans (hb7.mono HB5.out.size))
            clear hb7
            go_wp2_with fail
            go_ret
            exact ⟨by simp, HB7.out⟩
      · have hpo := qput_out (al := al) HI2.out HW1.out (by omega) HDN.out (by have := HK40.out; omega) HC64.out (by rw [← HHE.out]; exact hin)
        rw [show ((3 : Nat) : Int) = (3 : Int) from rfl] at hpo
        have HPO := Lib.hid hpo
        clear hpo
        by_cases hxl : cx < -(H : Int)
        · skip
          have d0 : decide (cx < -(H : Int)) = true := decide_eq_true (by omega)
          go_wp2_with fail
          with_reducible refine HPO.out.mono ?_
          rintro e w3 ⟨rfl, hb3⟩
          have hcb3 := (hb3.block _ (lt_of_block HCB2.out)).trans HCB2.out
          have k2 := Joins.cell_of_block hcb3 0
          have k3 := Joins.cell_of_block hcb3 1
          simp at k2 k3
          have HB3 := Lib.hid (HB2.out.trans (hb3.mono HB2.out.size))
          clear hb3 hcb3
          go_wp2_with fail
          go_ret
          exact ⟨by simp, HB3.out⟩
        · by_cases hxh : (H : Int) ≤ cx
          · skip
            have d0 : decide (cx < -(H : Int)) = false := decide_eq_false (by omega)
            have d1 : decide (cx ≥ (H : Int)) = true := decide_eq_true (by omega)
            have d1' : decide ((H : Int) ≤ cx) = true := decide_eq_true (by omega)
            go_wp2_with fail
            with_reducible refine HPO.out.mono ?_
            rintro e w3 ⟨rfl, hb3⟩
            have hcb3 := (hb3.block _ (lt_of_block HCB2.out)).trans HCB2.out
            have k2 := Joins.cell_of_block hcb3 0
            have k3 := Joins.cell_of_block hcb3 1
            simp at k2 k3
            have HB3 := Lib.hid (HB2.out.trans (hb3.mono HB2.out.size))
            clear hb3 hcb3
            go_wp2_with fail
            go_ret
            exact ⟨by simp, HB3.out⟩
          · by_cases hyl : cy < -(H : Int)
            · skip
              have d0 : decide (cx < -(H : Int)) = false := decide_eq_false (by omega)
              have d1 : decide (cx ≥ (H : Int)) = false := decide_eq_false (by omega)
              have d1' : decide ((H : Int) ≤ cx) = false := decide_eq_false (by omega)
              have d2 : decide (cy < -(H : Int)) = true := decide_eq_true (by omega)
              go_wp2_with fail
              with_reducible refine HPO.out.mono ?_
              rintro e w3 ⟨rfl, hb3⟩
              have hcb3 := (hb3.block _ (lt_of_block HCB2.out)).trans HCB2.out
              have k2 := Joins.cell_of_block hcb3 0
              have k3 := Joins.cell_of_block hcb3 1
              simp at k2 k3
              have HB3 := Lib.hid (HB2.out.trans (hb3.mono HB2.out.size))
              clear hb3 hcb3
              go_wp2_with fail
              go_ret
              exact ⟨by simp, HB3.out⟩
            · skip
              have d0 : decide (cx < -(H : Int)) = false := decide_eq_false (by omega)
              have d1 : decide (cx ≥ (H : Int)) = false := decide_eq_false (by omega)
              have d1' : decide ((H : Int) ≤ cx) = false := decide_eq_false (by omega)
              have d2 : decide (cy < -(H : Int)) = false := decide_eq_false (by omega)
              have d3 : decide (cy ≥ (H : Int)) = true := decide_eq_true (by omega)
              have d3' : decide ((H : Int) ≤ cy) = true := decide_eq_true (by omega)
              go_wp2_with fail
              with_reducible refine HPO.out.mono ?_
              rintro e w3 ⟨rfl, hb3⟩
              have hcb3 := (hb3.block _ (lt_of_block HCB2.out)).trans HCB2.out
              have k2 := Joins.cell_of_block hcb3 0
              have k3 := Joins.cell_of_block hcb3 1
              simp at k2 k3
              have HB3 := Lib.hid (HB2.out.trans (hb3.mono HB2.out.size))
              clear hb3 hcb3
              go_wp2_with fail
              go_ret
              exact ⟨by simp, HB3.out⟩
    · skip
      have HM := Lib.hid (made_bad ys a cap X0 HSY.out hbad (by have := HYL.out; omega))
      rw [← HYN.out] at HM
      obtain ⟨er, her⟩ : ∃ er, er = (tidyF ys).2 := ⟨_, rfl⟩
      rw [← her] at HM hbad
      have HER := Lib.hid her
      have g1 : (er == 0) = false := by simpa using hbad
      have g2 : (er != 0) = true := by simpa using hbad
      clear hbad her
      go_enter Try.func5, Try.ntmps5
      go_upto_region 1 with fail
      rw [← HX0.out]
      go_wp2_with fail
      with_reducible refine HM.out.mono ?_
      rintro e w1 ⟨⟨b, rfl⟩, hb1⟩
      have HB2X := Lib.hid hb1
      have HSZ1 := Lib.hid hb1.size
      have HB1 := Lib.hid (HBX0.out.trans (hb1.mono HBX0.out.size))
      have HT := Lib.hid (refTidy_any ys a cap w1 (HSY.out.below (by omega) hb1))
      unfold Tidied at HT
      rw [← HYN.out, ← HER.out] at HT
      clear hb1
      go_wp2_with fail
      with_reducible refine HT.out.mono ?_
      rintro e w2 ⟨v2, rfl, hb2, _⟩
      have HB2 := Lib.hid (HB1.out.trans (hb2.mono HB1.out.size))
      clear hb2
      go_wp2_with fail
      go_ret
      exact ⟨by simp, HB2.out⟩
  · have u1 : decide ((n : Int) > 300) = false := decide_eq_false (by omega)
    have u2 : decide (300 < (n : Int)) = false := decide_eq_false (by omega)
    have u3 : decide (300 < n) = false := decide_eq_false hbig
    have hy : n = yn := by omega
    subst hy
    clear hcut
    by_cases hbad : (tidyF ys).2 = 0
    · skip
      have HM := Lib.hid (made_ok ys a cap X0 HSY.out hbad (by have := HYL.out; omega))
      rw [← HYN.out] at HM
      have HBAD := Lib.hid hbad
      clear hbad
      go_enter Try.func5, Try.ntmps5
      go_upto_region 1 with fail
      rw [← HX0.out]
      go_wp2_with fail
      with_reducible refine HM.out.mono ?_
      rintro e w1 ⟨b, lev, r, S, F, rfl, hlev, hr, hI, hF, hB, hG, hW, hden, hlive⟩
      have HB2X := Lib.hid hB
      have HSZ1 := Lib.hid hB.size
      have HB1 := Lib.hid (HBX0.out.trans (hB.mono HBX0.out.size))
      have HI1 := Lib.hid hI
      have HT := Lib.hid (refTidy_any ys a cap w1 (HSY.out.below (by omega) hB))
      unfold Tidied at HT
      rw [← HYN.out, HBAD.out] at HT
      have HLV := Lib.hid hlev
      have HDEN := Lib.hid hden
      have HF1 := Lib.hid hF
      have HG1 := Lib.hid hG
      have HW1 := Lib.hid hW
      have HLIV := Lib.hid hlive
      clear hlev hr hI hF hB hG hW hden hlive
      go_wp2_with fail
      with_reducible refine HT.out.mono ?_
      rintro e w2 ⟨v2, rfl, hb2, ht2⟩
      have HB2 := Lib.hid (HB1.out.trans (hb2.mono HB1.out.size))
      have HI2 := Lib.hid (HI1.out.below hb2)
      obtain ⟨a2, c2, hv2, _, _⟩ := ht2.form
      subst hv2
      have HT2 := Lib.hid ht2
      have HSL2 := Lib.hid (ht2.sl (by have := tidyF_length ys; omega))
      obtain ⟨k, hk⟩ : ∃ k, lev = k + 1 := ⟨lev - 1, by have := HLV.out.lo; omega⟩
      subst hk
      have HB2C := Lib.hid (show w2.heap[w.heap.size]? = X0.heap[w.heap.size]? from (hb2.block _ (Nat.lt_of_lt_of_le (lt_of_block HCB.out) HSZ1.out)).trans (HB2X.out.block _ (lt_of_block HCB.out)))
      clear hb2 ht2
      have hlen4 := tidyF_length ys
      obtain ⟨s, hsE⟩ : ∃ s, s = (tidyF ys).1 := ⟨_, rfl⟩
      have hden := HDEN.out
      rw [show k + 1 - 1 = k from rfl] at hden
      have hls := HLV.out
      have hb := within_box (by omega) HLV.out.all
      rw [show k + 1 - 1 = k from rfl] at hb
      have hcn := cnt_build hb
      have htb := tidy_build HBAD.out HLV.out
      rw [show k + 1 - 1 = k from rfl] at htb
      have hls3 : (tidyF ys).1.length ≤ 300 := by have := tidyF_first ys HBAD.out; rw [this]; exact Nat.le_trans (sortF_length ys) HYL.out
      have hk40 : 1 ≤ k ∧ k ≤ 40 := by have := HLV.out.hi; have := HLV.out.lo; omega
      have hlv3 := made_bud (c := 100) HG1.out HLIV.out HLV.out.hi (by have := tidyF_first ys HBAD.out; rw [this]; exact Nat.le_trans (sortF_length ys) HYL.out) (by omega)
      obtain ⟨lv, hlv⟩ : ∃ lv : Nat, lv = k + 1 := ⟨_, rfl⟩
      have hlI : ((k + 1 : Nat) : Int) = (lv : Int) := by omega
      obtain ⟨lw, hlw⟩ : ∃ lw : Nat, lw = k + 2 := ⟨_, rfl⟩
      have hlv2 : ((k + 2 : Nat) : Int) = (lw : Int) := by omega
      have hlvb : lv ≤ 41 := by omega
      have hlw1 : (lv : Int) + 1 = (lw : Int) := by omega
      have hlw2 : IntKind.i64.wrap (lw : Int) = (lw : Int) := by rw [IntKind.wrap_i64]; omega
      have hFw1 := HI1.out.lt
      have HFW := Lib.hid (show ∀ i, F i → i < w1.heap.size from hFw1)
      have hsT := HT2.out
      have hs2 := HSL2.out
      have hcl := hlen4
      have hptd := fun (c : Int × Int) (al : Bool) (keep : Bool → Bool → Bool) (h1 : -((2 ^ k : Nat) : Int) ≤ c.1 ∧ c.1 < ((2 ^ k : Nat) : Int) ∧ -((2 ^ k : Nat) : Int) ≤ c.2 ∧ c.2 < ((2 ^ k : Nat) : Int)) (h2 : ∀ p q, keep p q = if q then al else p) (h3 : farC c = false) => put_tidy HBAD.out HYL.out HLV.out h1 h2 h3
      have hmo := fun (c : Int × Int) (keep : Bool → Bool → Bool) => merge_one (keep := keep) (c := c) HBAD.out HYL.out
      rw [← hsE] at hden hls hls3 hcn htb hlen4 hsT hs2 hptd hmo ⊢
      have HLE3 := Lib.hid hls3
      obtain ⟨T, hT⟩ : ∃ T, T = buildT (k + 1) (-((2 ^ k : Nat) : Int)) (-((2 ^ k : Nat) : Int)) s := ⟨_, rfl⟩
      rw [← hT] at hden hcn htb hptd
      obtain ⟨H, hH⟩ : ∃ H : Nat, H = 2 ^ k := ⟨_, rfl⟩
      have hHI : (2 : Int) ^ k = (H : Int) := by rw [hH, Int.natCast_pow]; rfl
      have hHb : H ≤ 1099511627776 := by
        have : 2 ^ k ≤ 2 ^ 40 := Nat.pow_le_pow_right (by omega) (by omega)
        omega
      have hwr : IntKind.i64.wrap (2 ^ k) = (H : Int) := by rw [hHI, IntKind.wrap_i64]; omega
      have hlm : (lv : Int) - 1 = (k : Int) := by omega
      have hL := fun (S' : ArS) (F' : Nat → Prop) (id : Int) (W : World) (T' : Tree) (hi : IsAr b S' W F') (hd : Den S'.L 3 (k + 1) T' id) => (by
        have h := level_any b S' F' ((3 : Nat) : Int) id W hi
        rw [hd.levelA hi.ok (by omega), hlI, show ((3 : Nat) : Int) = (3 : Int) from rfl] at h
        exact h : Calls Try.prog 12 #[.pointer (some ⟨b, 0, none⟩), .int .i64 3, .int .i64 id] W fun e w' => e = .returned (.tuple #[.int .i64 lv, .int .i64 0]) ∧ w' = W)
      have HL := Lib.hid hL
      have HL1 := Lib.hid (hL S F r w2 T HI2.out hden)
      have HDN := Lib.hid hden
      have HCN := Lib.hid hcn
      have HBU := Lib.hid hlv3
      have HK40 := Lib.hid hk40
      have HST := Lib.hid hsT
      have HS2 := Lib.hid hs2
      have HL4 := Lib.hid hlen4
      have HPTD := Lib.hid hptd
      have HMO := Lib.hid hmo
      have HHE := Lib.hid hH
      obtain ⟨sn, hsn⟩ : ∃ sn, sn = s.length := ⟨_, rfl⟩
      have HSN := Lib.hid hsn
      rw [← hsn]
      have hlvb : lv ≤ 41 := by omega
      have HBX2 := Lib.hid (show X0.heap.size ≤ w1.heap.size from HSZ1.out)
      have hcb2 := ((HB2C.out).trans HCB.out)
      have k0 := Joins.cell_of_block hcb2 0
      have k1 := Joins.cell_of_block hcb2 1
      simp at k0 k1
      have HCB2 := Lib.hid hcb2
      clear hlen4 hcl hsE hden hls hls3 hb hcn htb hlv3 hlv hlI hlv2 hsT hs2 hptd hmo hT hH hHI hL hsn hk40 hFw1 hcb2
      try clear hlw hlw1 hlw2
      go_wp2_with fail
      with_reducible refine HL1.out.mono ?_
      rintro e w0 ⟨rfl, rfl⟩
      by_cases hin : -(H : Int) ≤ cx ∧ cx < (H : Int) ∧ -(H : Int) ≤ cy ∧ cy < (H : Int)
      · cases al with
        | true =>
          have hpi := qput_in (al := true) HI2.out HW1.out (by omega) HDN.out (by have := HK40.out; omega) HC64.out (by rw [← HHE.out]; exact hin)
          rw [← HHE.out, show ((3 : Nat) : Int) = (3 : Int) from rfl] at hpi
          have HPI := Lib.hid hpi
          have HPT2 := Lib.hid (HPTD.out (cx, cy) true)
          have d0 : decide (cx < -(H : Int)) = false := decide_eq_false (by omega)
          have d1 : decide (cx ≥ (H : Int)) = false := decide_eq_false (by omega)
          have d1' : decide ((H : Int) ≤ cx) = false := decide_eq_false (by omega)
          have d2 : decide (cy < -(H : Int)) = false := decide_eq_false (by omega)
          have d3 : decide (cy ≥ (H : Int)) = false := decide_eq_false (by omega)
          have d3' : decide ((H : Int) ≤ cy) = false := decide_eq_false (by omega)
          have HIN := Lib.hid hin
          clear hpi hin
          go_wp2_with fail
          with_reducible refine HPI.out.mono ?_
          rintro e w3 ⟨r3, er3, S3, F3, rfl, hr3, hres3, hden3, -, hI3, hF3, hk3⟩
          have hbb := hres3.bud 0 (by rw [Nat.zero_add]; exact HBU.out.less (by have := HK40.out; omega)) rfl
          obtain ⟨he3, -⟩ := hbb
          subst he3
          have hd3 := hden3 rfl
          have hHW2 := HB2.out.size
          have hcb3 := (hk3.block w.heap.size (lt_of_block HCB2.out) (fun e => by have := HF1.out _ e; have := HXS.out; omega)).trans HCB2.out
          have k2 := Joins.cell_of_block hcb3 0
          have k3 := Joins.cell_of_block hcb3 1
          simp at k2 k3
          have hB3 := HB2.out.trans (hk3.toBelow (B := w.heap.size) (fun i e => by have := HF1.out i e; have := HXS.out; omega) hHW2)
          have hst3 : Tight w1.heap.size w3 (.slice a2 s.length c2) s := HST.out.same fun g h1 h2 => hk3.block g h2 (fun e => by have := HFW.out g e; omega)
          have hs3 := hst3.sl (by have := HL4.out; omega)
          obtain ⟨X3, hX3⟩ : ∃ X, X = w3.alloc (.cells #[.int .i64 cx, .int .i64 cy] 39 (0, 0)) := ⟨_, rfl⟩
          have hbX3 : Below w3.heap.size w3 X3 := by rw [hX3]; exact (Below.refl _ _).alloc (Nat.le_refl _) _
          have hone : Sl X3 2 16 (some ⟨w3.heap.size, 0, none⟩) [(cx, cy)].length 1 ([(cx, cy)].flatMap encCell) := sl_one (by rw [hX3]; exact blk_last w3 _ rfl)
          have hun := refUnion_any s [(cx, cy)] a2 (some ⟨w3.heap.size, 0, none⟩) c2 1 X3 (hs3.below (by omega) hbX3) hone
          unfold Picked at hun
          rw [HMO.out] at hun
          rw [← HSN.out, show [(cx, cy)].length = 1 from rfl] at hun
          have hcnt : cnt (putT (k + 1) (cx + (H : Int)) (cy + (H : Int)) true T) ≤ 4096 := by
            have h1 := cnt_put (x := cx + (H : Int)) (y := cy + (H : Int)) (al := true) HDN.out.full
            have h2 := HCN.out
            have h3 := HLE3.out
            omega
          have hce := fun (W : World) (hi : IsAr b S3 W F3) => qcells_any b 3 S3 F3 k (putT (k + 1) (cx + (H : Int)) (cy + (H : Int)) true T) r3 W hi (by omega) hd3 hcnt (by have := HK40.out; omega)
          rw [← HHE.out, show ((3 : Nat) : Int) = (3 : Int) from rfl] at hce
          have HCE := Lib.hid hce
          have HUN := Lib.hid hun
          have HL3 := Lib.hid (fun (W : World) (hi : IsAr b S3 W F3) => HL.out S3 F3 r3 W _ hi hd3)
          have HI3 := Lib.hid (hI3.below hbX3)
          have HB3 := Lib.hid (hB3.trans (hbX3.mono hB3.size))
          have HX3 := Lib.hid hX3
          have HST3 := Lib.hid (hst3.below hbX3)
          clear hr3 hres3 hden3 hI3 hF3 hk3 hd3 hHW2 hcb3 hB3 hst3 hs3 hX3 hbX3 hone hun hcnt hce
          go_wp2_with fail
          rw [← HX3.out]
          cases hfar : farC (cx, cy) with
          | true =>
            have HUF := HUN.out
            rw [hfar, if_pos rfl] at HUF
            have HUF := Lib.hid HUF
            clear hfar
            with_reducible refine HUF.out.mono ?_
            rintro e w4 ⟨v4, rfl, hb4, ht4⟩
            obtain ⟨a4, c4, hv4, -, -⟩ := ht4.form
            subst hv4
            have HB4 := Lib.hid (HB3.out.trans (hb4.mono HB3.out.size))
            have HI4 := Lib.hid (HI3.out.below hb4)
            have HCE4 := Lib.hid (HCE.out w4 HI4.out)
            unfold Tidied at HCE4
            obtain ⟨er4, her4⟩ : ∃ x, x = (tidyF (cellsT (k + 1) (putT (k + 1) (cx + (H : Int)) (cy + (H : Int)) true T) (-(H : Int)) (-(H : Int)))).2 := ⟨_, rfl⟩
            rw [← her4] at HCE4
            clear hb4 ht4 her4
            go_wp2_with fail
            with_reducible refine HCE4.out.mono ?_
            rintro e w5 ⟨v5, rfl, hb5, ht5⟩
            obtain ⟨a5, c5, hv5, -, -⟩ := ht5.form
            subst hv5
            have HB5 := Lib.hid (HB4.out.trans (hb5.mono HB4.out.size))
            have HL5 := Lib.hid (HL3.out w5 (HI4.out.below hb5))
            obtain ⟨n5, hn5⟩ : ∃ x, x = (tidyF (cellsT (k + 1) (putT (k + 1) (cx + (H : Int)) (cy + (H : Int)) true T) (-(H : Int)) (-(H : Int)))).1.length := ⟨_, rfl⟩
            rw [← hn5]
            clear hb5 ht5 hn5
            go_wp2_with fail
            with_reducible refine HL5.out.mono ?_
            rintro e w6 ⟨rfl, rfl⟩
            go_wp2_with fail
            go_ret
            exact ⟨by simp, HB5.out⟩
          | false =>
            have HUF := HUN.out
            rw [hfar, if_neg (by decide)] at HUF
            have HUF := Lib.hid HUF
            have hpt := HPT2.out keepOr (by rw [← HHE.out]; exact HIN.out) (by intro p q; cases p <;> cases q <;> rfl) hfar
            try simp only at hpt
            rw [← HHE.out] at hpt
            have HPT := Lib.hid hpt
            clear hfar hpt
            with_reducible refine HUF.out.mono ?_
            rintro e w4 ⟨v4, rfl, hb4, ht4⟩
            obtain ⟨a4, c4, hv4, -, -⟩ := ht4.form
            subst hv4
            have HB4 := Lib.hid (HB3.out.trans (hb4.mono HB3.out.size))
            have HI4 := Lib.hid (HI3.out.below hb4)
            have HCE4 := Lib.hid (HCE.out w4 HI4.out)
            unfold Tidied at HCE4
            rw [HPT.out] at HCE4
            obtain ⟨m, hm⟩ : ∃ m, m = pickF keepOr s [(cx, cy)] := ⟨_, rfl⟩
            have hm4 : m.length ≤ 4096 := by
              have h1 := tidyF_length (cellsT (k + 1) (putT (k + 1) (cx + (H : Int)) (cy + (H : Int)) true T) (-(H : Int)) (-(H : Int)))
              rw [HPT.out] at h1
              rw [hm]; exact h1
            simp only at HCE4 ht4
            rw [← hm] at HCE4 ht4
            obtain ⟨mn, hmn⟩ : ∃ mn, mn = m.length := ⟨_, rfl⟩
            have HMN := Lib.hid hmn
            have HM4 := Lib.hid hm4
            have HT4 := Lib.hid ht4
            try rw [← hm]
            rw [← hmn]
            clear hb4 ht4 hm hmn hm4
            go_wp2_with fail
            with_reducible refine HCE4.out.mono ?_
            rintro e w5 ⟨v5, rfl, hb5, ht5⟩
            obtain ⟨a5, c5, hv5, -, -⟩ := ht5.form
            subst hv5
            have HB5 := Lib.hid (HB4.out.trans (hb5.mono HB4.out.size))
            have HL5 := Lib.hid (HL3.out w5 (HI4.out.below hb5))
            have hsa := same_any m a5 a4 c5 c4 w5 (ht5.sl (by have := HM4.out; omega)) ((HT4.out.below hb5).sl (by have := HM4.out; omega))
            rw [← HMN.out] at hsa
            rw [← HMN.out]
            have HSA := Lib.hid hsa
            clear hb5 ht5 hsa
            go_wp2_with fail
            with_reducible refine HL5.out.mono ?_
            rintro e w6 ⟨rfl, rfl⟩
            go_wp2_with fail
            with_reducible refine HSA.out.mono ?_
            rintro e w7 ⟨rfl, hb7⟩
            have HB7 := Lib.hid (HB5.out.trans (hb7.mono HB5.out.size))
            clear hb7
            go_wp2_with fail
            go_ret
            exact ⟨by simp, HB7.out⟩
        | false =>
          have hpi := qput_in (al := false) HI2.out HW1.out (by omega) HDN.out (by have := HK40.out; omega) HC64.out (by rw [← HHE.out]; exact hin)
          rw [← HHE.out, show ((3 : Nat) : Int) = (3 : Int) from rfl] at hpi
          have HPI := Lib.hid hpi
          have HPT2 := Lib.hid (HPTD.out (cx, cy) false)
          have d0 : decide (cx < -(H : Int)) = false := decide_eq_false (by omega)
          have d1 : decide (cx ≥ (H : Int)) = false := decide_eq_false (by omega)
          have d1' : decide ((H : Int) ≤ cx) = false := decide_eq_false (by omega)
          have d2 : decide (cy < -(H : Int)) = false := decide_eq_false (by omega)
          have d3 : decide (cy ≥ (H : Int)) = false := decide_eq_false (by omega)
          have d3' : decide ((H : Int) ≤ cy) = false := decide_eq_false (by omega)
          have HIN := Lib.hid hin
          clear hpi hin
          go_wp2_with fail
          with_reducible refine HPI.out.mono ?_
          rintro e w3 ⟨r3, er3, S3, F3, rfl, hr3, hres3, hden3, -, hI3, hF3, hk3⟩
          have hbb := hres3.bud 0 (by rw [Nat.zero_add]; exact HBU.out.less (by have := HK40.out; omega)) rfl
          obtain ⟨he3, -⟩ := hbb
          subst he3
          have hd3 := hden3 rfl
          have hHW2 := HB2.out.size
          have hcb3 := (hk3.block w.heap.size (lt_of_block HCB2.out) (fun e => by have := HF1.out _ e; have := HXS.out; omega)).trans HCB2.out
          have k2 := Joins.cell_of_block hcb3 0
          have k3 := Joins.cell_of_block hcb3 1
          simp at k2 k3
          have hB3 := HB2.out.trans (hk3.toBelow (B := w.heap.size) (fun i e => by have := HF1.out i e; have := HXS.out; omega) hHW2)
          have hst3 : Tight w1.heap.size w3 (.slice a2 s.length c2) s := HST.out.same fun g h1 h2 => hk3.block g h2 (fun e => by have := HFW.out g e; omega)
          have hs3 := hst3.sl (by have := HL4.out; omega)
          obtain ⟨X3, hX3⟩ : ∃ X, X = w3.alloc (.cells #[.int .i64 cx, .int .i64 cy] 39 (0, 0)) := ⟨_, rfl⟩
          have hbX3 : Below w3.heap.size w3 X3 := by rw [hX3]; exact (Below.refl _ _).alloc (Nat.le_refl _) _
          have hone : Sl X3 2 16 (some ⟨w3.heap.size, 0, none⟩) [(cx, cy)].length 1 ([(cx, cy)].flatMap encCell) := sl_one (by rw [hX3]; exact blk_last w3 _ rfl)
          have hun := refMinus_any s [(cx, cy)] a2 (some ⟨w3.heap.size, 0, none⟩) c2 1 X3 (hs3.below (by omega) hbX3) hone
          unfold Picked at hun
          rw [HMO.out] at hun
          rw [← HSN.out, show [(cx, cy)].length = 1 from rfl] at hun
          have hcnt : cnt (putT (k + 1) (cx + (H : Int)) (cy + (H : Int)) false T) ≤ 4096 := by
            have h1 := cnt_put (x := cx + (H : Int)) (y := cy + (H : Int)) (al := false) HDN.out.full
            have h2 := HCN.out
            have h3 := HLE3.out
            omega
          have hce := fun (W : World) (hi : IsAr b S3 W F3) => qcells_any b 3 S3 F3 k (putT (k + 1) (cx + (H : Int)) (cy + (H : Int)) false T) r3 W hi (by omega) hd3 hcnt (by have := HK40.out; omega)
          rw [← HHE.out, show ((3 : Nat) : Int) = (3 : Int) from rfl] at hce
          have HCE := Lib.hid hce
          have HUN := Lib.hid hun
          have HL3 := Lib.hid (fun (W : World) (hi : IsAr b S3 W F3) => HL.out S3 F3 r3 W _ hi hd3)
          have HI3 := Lib.hid (hI3.below hbX3)
          have HB3 := Lib.hid (hB3.trans (hbX3.mono hB3.size))
          have HX3 := Lib.hid hX3
          have HST3 := Lib.hid (hst3.below hbX3)
          clear hr3 hres3 hden3 hI3 hF3 hk3 hd3 hHW2 hcb3 hB3 hst3 hs3 hX3 hbX3 hone hun hcnt hce
          go_wp2_with fail
          rw [← HX3.out]
          cases hfar : farC (cx, cy) with
          | true =>
            have HUF := HUN.out
            rw [hfar, if_pos rfl] at HUF
            have HUF := Lib.hid HUF
            clear hfar
            with_reducible refine HUF.out.mono ?_
            rintro e w4 ⟨v4, rfl, hb4, ht4⟩
            obtain ⟨a4, c4, hv4, -, -⟩ := ht4.form
            subst hv4
            have HB4 := Lib.hid (HB3.out.trans (hb4.mono HB3.out.size))
            have HI4 := Lib.hid (HI3.out.below hb4)
            have HCE4 := Lib.hid (HCE.out w4 HI4.out)
            unfold Tidied at HCE4
            obtain ⟨er4, her4⟩ : ∃ x, x = (tidyF (cellsT (k + 1) (putT (k + 1) (cx + (H : Int)) (cy + (H : Int)) false T) (-(H : Int)) (-(H : Int)))).2 := ⟨_, rfl⟩
            rw [← her4] at HCE4
            clear hb4 ht4 her4
            go_wp2_with fail
            with_reducible refine HCE4.out.mono ?_
            rintro e w5 ⟨v5, rfl, hb5, ht5⟩
            obtain ⟨a5, c5, hv5, -, -⟩ := ht5.form
            subst hv5
            have HB5 := Lib.hid (HB4.out.trans (hb5.mono HB4.out.size))
            have HL5 := Lib.hid (HL3.out w5 (HI4.out.below hb5))
            obtain ⟨n5, hn5⟩ : ∃ x, x = (tidyF (cellsT (k + 1) (putT (k + 1) (cx + (H : Int)) (cy + (H : Int)) false T) (-(H : Int)) (-(H : Int)))).1.length := ⟨_, rfl⟩
            rw [← hn5]
            clear hb5 ht5 hn5
            go_wp2_with fail
            with_reducible refine HL5.out.mono ?_
            rintro e w6 ⟨rfl, rfl⟩
            go_wp2_with fail
            go_ret
            exact ⟨by simp, HB5.out⟩
          | false =>
            have HUF := HUN.out
            rw [hfar, if_neg (by decide)] at HUF
            have HUF := Lib.hid HUF
            have hpt := HPT2.out keepMinus (by rw [← HHE.out]; exact HIN.out) (by intro p q; cases p <;> cases q <;> rfl) hfar
            try simp only at hpt
            rw [← HHE.out] at hpt
            have HPT := Lib.hid hpt
            clear hfar hpt
            with_reducible refine HUF.out.mono ?_
            rintro e w4 ⟨v4, rfl, hb4, ht4⟩
            obtain ⟨a4, c4, hv4, -, -⟩ := ht4.form
            subst hv4
            have HB4 := Lib.hid (HB3.out.trans (hb4.mono HB3.out.size))
            have HI4 := Lib.hid (HI3.out.below hb4)
            have HCE4 := Lib.hid (HCE.out w4 HI4.out)
            unfold Tidied at HCE4
            rw [HPT.out] at HCE4
            obtain ⟨m, hm⟩ : ∃ m, m = pickF keepMinus s [(cx, cy)] := ⟨_, rfl⟩
            have hm4 : m.length ≤ 4096 := by
              have h1 := tidyF_length (cellsT (k + 1) (putT (k + 1) (cx + (H : Int)) (cy + (H : Int)) false T) (-(H : Int)) (-(H : Int)))
              rw [HPT.out] at h1
              rw [hm]; exact h1
            simp only at HCE4 ht4
            rw [← hm] at HCE4 ht4
            obtain ⟨mn, hmn⟩ : ∃ mn, mn = m.length := ⟨_, rfl⟩
            have HMN := Lib.hid hmn
            have HM4 := Lib.hid hm4
            have HT4 := Lib.hid ht4
            try rw [← hm]
            rw [← hmn]
            clear hb4 ht4 hm hmn hm4
            go_wp2_with fail
            with_reducible refine HCE4.out.mono ?_
            rintro e w5 ⟨v5, rfl, hb5, ht5⟩
            obtain ⟨a5, c5, hv5, -, -⟩ := ht5.form
            subst hv5
            have HB5 := Lib.hid (HB4.out.trans (hb5.mono HB4.out.size))
            have HL5 := Lib.hid (HL3.out w5 (HI4.out.below hb5))
            have hsa := same_any m a5 a4 c5 c4 w5 (ht5.sl (by have := HM4.out; omega)) ((HT4.out.below hb5).sl (by have := HM4.out; omega))
            rw [← HMN.out] at hsa
            rw [← HMN.out]
            have HSA := Lib.hid hsa
            clear hb5 ht5 hsa
            go_wp2_with fail
            with_reducible refine HL5.out.mono ?_
            rintro e w6 ⟨rfl, rfl⟩
            go_wp2_with fail
            with_reducible refine HSA.out.mono ?_
            rintro e w7 ⟨rfl, hb7⟩
            have HB7 := Lib.hid (HB5.out.trans (hb7.mono HB5.out.size))
            clear hb7
            go_wp2_with fail
            go_ret
            exact ⟨by simp, HB7.out⟩
      · have hpo := qput_out (al := al) HI2.out HW1.out (by omega) HDN.out (by have := HK40.out; omega) HC64.out (by rw [← HHE.out]; exact hin)
        rw [show ((3 : Nat) : Int) = (3 : Int) from rfl] at hpo
        have HPO := Lib.hid hpo
        clear hpo
        by_cases hxl : cx < -(H : Int)
        · skip
          have d0 : decide (cx < -(H : Int)) = true := decide_eq_true (by omega)
          go_wp2_with fail
          with_reducible refine HPO.out.mono ?_
          rintro e w3 ⟨rfl, hb3⟩
          have hcb3 := (hb3.block _ (lt_of_block HCB2.out)).trans HCB2.out
          have k2 := Joins.cell_of_block hcb3 0
          have k3 := Joins.cell_of_block hcb3 1
          simp at k2 k3
          have HB3 := Lib.hid (HB2.out.trans (hb3.mono HB2.out.size))
          clear hb3 hcb3
          go_wp2_with fail
          go_ret
          exact ⟨by simp, HB3.out⟩
        · by_cases hxh : (H : Int) ≤ cx
          · skip
            have d0 : decide (cx < -(H : Int)) = false := decide_eq_false (by omega)
            have d1 : decide (cx ≥ (H : Int)) = true := decide_eq_true (by omega)
            have d1' : decide ((H : Int) ≤ cx) = true := decide_eq_true (by omega)
            go_wp2_with fail
            with_reducible refine HPO.out.mono ?_
            rintro e w3 ⟨rfl, hb3⟩
            have hcb3 := (hb3.block _ (lt_of_block HCB2.out)).trans HCB2.out
            have k2 := Joins.cell_of_block hcb3 0
            have k3 := Joins.cell_of_block hcb3 1
            simp at k2 k3
            have HB3 := Lib.hid (HB2.out.trans (hb3.mono HB2.out.size))
            clear hb3 hcb3
            go_wp2_with fail
            go_ret
            exact ⟨by simp, HB3.out⟩
          · by_cases hyl : cy < -(H : Int)
            · skip
              have d0 : decide (cx < -(H : Int)) = false := decide_eq_false (by omega)
              have d1 : decide (cx ≥ (H : Int)) = false := decide_eq_false (by omega)
              have d1' : decide ((H : Int) ≤ cx) = false := decide_eq_false (by omega)
              have d2 : decide (cy < -(H : Int)) = true := decide_eq_true (by omega)
              go_wp2_with fail
              with_reducible refine HPO.out.mono ?_
              rintro e w3 ⟨rfl, hb3⟩
              have hcb3 := (hb3.block _ (lt_of_block HCB2.out)).trans HCB2.out
              have k2 := Joins.cell_of_block hcb3 0
              have k3 := Joins.cell_of_block hcb3 1
              simp at k2 k3
              have HB3 := Lib.hid (HB2.out.trans (hb3.mono HB2.out.size))
              clear hb3 hcb3
              go_wp2_with fail
              go_ret
              exact ⟨by simp, HB3.out⟩
            · skip
              have d0 : decide (cx < -(H : Int)) = false := decide_eq_false (by omega)
              have d1 : decide (cx ≥ (H : Int)) = false := decide_eq_false (by omega)
              have d1' : decide ((H : Int) ≤ cx) = false := decide_eq_false (by omega)
              have d2 : decide (cy < -(H : Int)) = false := decide_eq_false (by omega)
              have d3 : decide (cy ≥ (H : Int)) = true := decide_eq_true (by omega)
              have d3' : decide ((H : Int) ≤ cy) = true := decide_eq_true (by omega)
              go_wp2_with fail
              with_reducible refine HPO.out.mono ?_
              rintro e w3 ⟨rfl, hb3⟩
              have hcb3 := (hb3.block _ (lt_of_block HCB2.out)).trans HCB2.out
              have k2 := Joins.cell_of_block hcb3 0
              have k3 := Joins.cell_of_block hcb3 1
              simp at k2 k3
              have HB3 := Lib.hid (HB2.out.trans (hb3.mono HB2.out.size))
              clear hb3 hcb3
              go_wp2_with fail
              go_ret
              exact ⟨by simp, HB3.out⟩
    · skip
      have HM := Lib.hid (made_bad ys a cap X0 HSY.out hbad (by have := HYL.out; omega))
      rw [← HYN.out] at HM
      obtain ⟨er, her⟩ : ∃ er, er = (tidyF ys).2 := ⟨_, rfl⟩
      rw [← her] at HM hbad
      have HER := Lib.hid her
      have g1 : (er == 0) = false := by simpa using hbad
      have g2 : (er != 0) = true := by simpa using hbad
      clear hbad her
      go_enter Try.func5, Try.ntmps5
      go_upto_region 1 with fail
      rw [← HX0.out]
      go_wp2_with fail
      with_reducible refine HM.out.mono ?_
      rintro e w1 ⟨⟨b, rfl⟩, hb1⟩
      have HB2X := Lib.hid hb1
      have HSZ1 := Lib.hid hb1.size
      have HB1 := Lib.hid (HBX0.out.trans (hb1.mono HBX0.out.size))
      have HT := Lib.hid (refTidy_any ys a cap w1 (HSY.out.below (by omega) hb1))
      unfold Tidied at HT
      rw [← HYN.out, ← HER.out] at HT
      clear hb1
      go_wp2_with fail
      with_reducible refine HT.out.mono ?_
      rintro e w2 ⟨v2, rfl, hb2, _⟩
      have HB2 := Lib.hid (HB1.out.trans (hb2.mono HB1.out.size))
      clear hb2
      go_wp2_with fail
      go_ret
      exact ⟨by simp, HB2.out⟩
section
open Go.ChangeShapes Go.WideShapes Go.ChangeAt
set_option maxRecDepth 100000 in
theorem lifted_quadPuts (os : Os) (started : os.Started) (H : Type) (enc : TypeId × Value → H)
    (walk : ∀ (W : World) (v0 : Value) (v1 : Value) (v2 : Value), Is_cells W v0 → Is_cell W v1 → Is_bool W v2 → Calls Try.prog 5 #[v0, v1, v2] W fun e w' => e = .returned (.bool true) ∧ Below W.heap.size W w') :
    ReturnsInHanded {} Try.checked os 5 .any (Rows.quadPutsSpec.pre6 enc Try.prog Try.f5 Rows.quadPutsRow.domain false) (Rows.quadPutsSpec.post enc Try.prog Try.f5 false true false false) := by
  refine returnsInHanded_of_change_sized (C := Try.checked) own started (by kernel_rfl) Try.func5
    (ChangeSpec.witness6 (enc := enc) (C := Try.checked) false ⟨#[], #[.slice none 0 0, .agg #[.int .i64 0, .int .i64 0], .bool false], []⟩ 8 (by kernel_rfl) (by kernel_rfl) (by kernel_rfl) (by kernel_rfl)) ?_
  intro W base args ds gs before hval0 hW hcnd hsz0 _
  have hval : ∀ (j : Nat) t v, Try.f5.params[j]? = some t → args[j]? = some v → Value.okWide Try.prog W .any base t v := hval0
  have hW' := hW
  obtain ⟨p, q, hA0, hV, rfl, hfz, hnd⟩ := hW
  have hA : DataW.TrodAll enc Try.prog W 0 (fun _ => true) true Try.f5.params.toList args.toList ds p := hA0
  rw [Try.params5] at hA hval
  obtain ⟨rfl, rfl⟩ := trodVars_none hV
  have hB := hA
  obtain ⟨v0, vs0, d0, ds0, p0, q0, hargs, rfl, rfl, h0, r0⟩ := trodAll_cons hA
  obtain ⟨v1, vs1, d1, ds1, p1, q1, rfl, rfl, rfl, h1, r1⟩ := trodAll_cons r0
  obtain ⟨v2, vs2, d2, ds2, p2, q2, rfl, rfl, rfl, h2, r2⟩ := trodAll_cons r1
  obtain ⟨rfl, rfl, rfl⟩ := trodAll_nil r2
  obtain rfl : args = #[v0, v1, v2] := by cases args; simp_all
  have hsz : (DataW.weightsEach Try.prog [30, 39, 4] [d0, d1, d2]).all (· ≤ reachBytes) = true := hsz0
  have i0 := open_cells (hval 0 30 v0 rfl rfl) h0 (weights_le hsz 0 rfl rfl)
  have i1 := open_cell (hval 1 39 v1 rfl rfl) h1 (weights_le hsz 1 rfl rfl)
  have i2 := open_bool (hval 2 4 v2 rfl rfl) h2 (weights_le hsz 2 rfl rfl)
  refine (walk W v0 v1 v2 i0 i1 i2).mono fun e W' ⟨he, bel⟩ => ?_
  subst he
  exact ⟨_, rfl, _, _, _, [], _, [], hW', trodAll_mk1 (shut_bool Try.underlying4 _), trodAll_below laidOut (by kernel_rfl) hB bel, rfl, bel.frame _, fun h => by cases h⟩

theorem over_quadPuts (walk : ∀ (W : World) (v0 : Value) (v1 : Value) (v2 : Value), Is_cells W v0 → Is_cell W v1 → Is_bool W v2 → Calls Try.prog 5 #[v0, v1, v2] W fun e w' => e = .returned (.bool true) ∧ Below W.heap.size W w') :
    Rows.quadPutsRow.holds Try.pinned (OpenSpec.ofChange Rows.quadPutsSpec) :=
  OpenClaim.holds_of_wide 5 Try.f5 rfl rfl rfl rfl rfl rfl rfl ⟨rfl, rfl, rfl, rfl, rfl⟩ rfl rfl rfl rfl rfl (by kernel_rfl) Try.func5 (by kernel_rfl)
    (of_decide_eq_true (by kernel_rfl)) (by unfold Func.isWrapper; first | (rw [if_pos (by decide +kernel)]; kernel_rfl) | (rw [if_neg (by decide +kernel)]; exact ⟨rfl, rfl⟩))
    (fun os started H enc _ => lifted_quadPuts os started H enc walk)
end
theorem quadPuts_proved : Rows.QuadPutsSaid := over_quadPuts fun W _ _ _ ⟨zs, ⟨a, cap, e1, hs⟩, _⟩ ⟨cx, cy, e2, h1, h2⟩ ⟨al, e3⟩ => by
  subst e1
  subst e2
  subst e3
  exact law_quadPuts zs a cap W cx cy al ⟨h1, h2⟩ hs
end Go.Proofs.Ytdmamecfmfhlmaa
