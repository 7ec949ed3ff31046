/-
  For every list of cells (three hundred at the most), Count and Box of the square that is made of it are those of the tidy list, or the error is told; no condition.
-/
import Derived.Test.YtdmamecfmfhlmaaZQuadReads48
import Derived.Test.YtdmamecfmfhlmaaRefBoxes
import Derived.Test.YtdmamecfmfhlmaaZQuadReadsTidyRef
namespace Go.Proofs.Ytdmamecfmfhlmaa
set_option maxRecDepth 100000
open Go.RowKit

set_option maxHeartbeats 8000000 in
set_option maxRecDepth 100000 in
theorem law_quadReads (zs : CellL) (a : Option Addr) (cap : Nat) (w : World) (hs : Sl w 2 16 a zs.length cap (zs.flatMap encCell)) : Calls Try.prog 6 #[.slice a zs.length cap] w fun e w' => e = .returned (.bool true) ∧ Below w.heap.size w w' := by
  obtain ⟨ys, hys⟩ : ∃ ys, ys = zs.take 300 := ⟨_, rfl⟩
  have hyl : ys.length ≤ 300 := by rw [hys, List.length_take]; omega
  obtain ⟨yn, hyn⟩ : ∃ yn, yn = ys.length := ⟨_, rfl⟩
  obtain ⟨n, hn⟩ : ∃ n, n = zs.length := ⟨_, rfl⟩
  have hcut : yn = min 300 n := by rw [hyn, hys, List.length_take, hn]
  have hsy : Sl w 2 16 a ys.length cap (ys.flatMap encCell) := by rw [hys]; exact sl_take hs 300
  rw [← hn]
  have hncap : n ≤ cap := by rw [hn]; exact hs.room
  have HSY := Lib.hid hsy
  have HYN := Lib.hid hyn
  have HYL := Lib.hid hyl
  clear hs hsy hys hn hyn hyl
  by_cases hbig : 300 < n
  · have u1 : decide ((n : Int) > 300) = true := decide_eq_true (by omega)
    have u2 : decide (300 < (n : Int)) = true := decide_eq_true (by omega)
    have u3 : decide (300 < n) = true := decide_eq_true hbig
    have hy : yn = 300 := by omega
    have hc3 : 300 ≤ cap := by omega
    subst hy
    clear hcut
    by_cases hbad : (tidyF ys).2 = 0
    · skip
      have HM := Lib.hid (made_ok ys a cap w HSY.out hbad (by have := HYL.out; omega))
      rw [← HYN.out] at HM
      have HBAD := Lib.hid hbad
      clear hbad
      go_enter Try.func6, Try.ntmps6
      go_wp2_with fail
      with_reducible refine HM.out.mono ?_
      rintro e w1 ⟨b, lev, r, S, F, rfl, hlev, hr, hI, hF, hB, hG, hW, hden, hlive⟩
      have HB1 := Lib.hid hB
      have HI1 := Lib.hid hI
      have HT := Lib.hid (refTidy_any ys a cap w1 (HSY.out.below (by omega) hB))
      unfold Tidied at HT
      rw [← HYN.out, HBAD.out] at HT
      have HLV := Lib.hid hlev
      have HDEN := Lib.hid hden
      have HF1 := Lib.hid hF
      have HG1 := Lib.hid hG
      have HW1 := Lib.hid hW
      have HLIV := Lib.hid hlive
      clear hlev hr hI hF hB hG hW hden hlive
      go_wp2_with fail
      with_reducible refine HT.out.mono ?_
      rintro e w2 ⟨v2, rfl, hb2, ht2⟩
      have HB2 := Lib.hid (HB1.out.trans (hb2.mono HB1.out.size))
      have HI2 := Lib.hid (HI1.out.below hb2)
      obtain ⟨a2, c2, hv2, _, _⟩ := ht2.form
      subst hv2
      have HT2 := Lib.hid ht2
      have HSL2 := Lib.hid (ht2.sl (by have := tidyF_length ys; omega))
      obtain ⟨k, hk⟩ : ∃ k, lev = k + 1 := ⟨lev - 1, by have := HLV.out.lo; omega⟩
      subst hk
      clear hb2 ht2
      have hden := HDEN.out
      have hb := within_box (by omega) HLV.out.all
      have hs := tidyF_first ys HBAD.out
      have hnd : (tidyF ys).1.Nodup := by rw [hs]; exact rising_nodup (rising_sortF ys)
      have hcn := cnt_build_eq hnd hb
      have hcl := tidyF_length ys
      have hmb := fun z => mem_build (z := z) hb
      obtain ⟨s, hsE⟩ : ∃ s, s = (tidyF ys).1 := ⟨_, rfl⟩
      have hsl := HSL2.out
      rw [← hsE] at hden hcn hcl hmb hsl ⊢
      rw [show k + 1 - 1 = k from rfl] at hden hcn hmb
      obtain ⟨T, hT⟩ : ∃ T, T = buildT (k + 1) (-((2 ^ k : Nat) : Int)) (-((2 ^ k : Nat) : Int)) s := ⟨_, rfl⟩
      rw [← hT] at hden hcn hmb
      have hpw : ((2 ^ k : Nat) : Int) = 2 ^ k := by rw [Int.natCast_pow]; rfl
      rw [hpw] at hmb
      obtain ⟨hbe, hbv⟩ := boxV_is hden.full hmb
      have hbv2 : boxV (k + 1) T = .agg (encBox (boxF s)) := by
        rw [hbv]
        split
        · next h => subst h; rfl
        · rfl
      have hbe2 : (!emB T) = decide (0 < s.length) := by
        rw [hbe]
        cases s with
        | nil => rfl
        | cons c r => simp
      have hco := qcount_any b 3 S F (k + 1) T r w2 HI2.out (by omega) hden (by unfold bigC; omega)
      rw [hcn, show ((3 : Nat) : Int) = (3 : Int) from rfl] at hco
      have hbx := fun (W : World) (hi : IsAr b S W F) => qbox_any b 3 S F k T r W hi (by omega) hden (by have := HLV.out.hi; omega)
      rw [hbv2, hbe2, show ((3 : Nat) : Int) = (3 : Int) from rfl] at hbx
      have hbo := fun (W : World) (hi : Below w2.heap.size w2 W) => refBounds_any s a2 c2 W (hsl.below (by omega) hi)
      unfold Boxed at hbo
      obtain ⟨⟨x0, y0, x1, y1⟩, hBF⟩ : ∃ B, B = boxF s := ⟨_, rfl⟩
      obtain ⟨sn, hsn⟩ : ∃ sn, sn = s.length := ⟨_, rfl⟩
      obtain ⟨pb, hpb⟩ : ∃ pb, pb = decide (0 < s.length) := ⟨_, rfl⟩
      rw [← hsn] at hco ⊢
      rw [← hBF, ← hpb] at hbx hbo
      rw [← hsn] at hbo
      unfold encBox at hbx hbo
      simp only at hbx hbo
      have HCO := Lib.hid hco
      have HBX := Lib.hid hbx
      have HBO := Lib.hid hbo
      clear hden hb hs hnd hcn hcl hmb hsE hT hpw hbe hbv hbv2 hbe2 hco hbx hbo hBF hsn hpb hsl
      go_wp2_with fail
      with_reducible refine HCO.out.mono ?_
      rintro e w3 ⟨rfl, hb3⟩
      have HB3 := Lib.hid hb3
      have HBX3 := Lib.hid (HBX.out w3 (HI2.out.below hb3))
      clear hb3
      go_wp2_with fail
      with_reducible refine HBX3.out.mono ?_
      rintro e w4 ⟨rfl, hb4⟩
      have HB4 := Lib.hid (HB3.out.trans (hb4.mono HB3.out.size))
      obtain ⟨X4, hX4⟩ : ∃ X, X = w4.alloc (.cells #[.int .i64 x0, .int .i64 y0, .int .i64 x1, .int .i64 y1] 44 (0, 0)) := ⟨_, rfl⟩
      have HBX4 := Lib.hid (show Below w2.heap.size w2 X4 by rw [hX4]; exact HB4.out.alloc HB4.out.size _)
      have HBK4 := Lib.hid (show X4.heap[w4.heap.size]? = some (.cells #[.int .i64 x0, .int .i64 y0, .int .i64 x1, .int .i64 y1] 44 (0, 0)) by rw [hX4]; exact blk_last w4 _ rfl)
      have HBO4 := Lib.hid (HBO.out X4 HBX4.out)
      have HX4 := Lib.hid hX4
      clear hb4 hX4
      go_wp2_with fail
      rw [← HX4.out]
      with_reducible refine HBO4.out.mono ?_
      rintro e w5 ⟨rfl, hb5⟩
      have hB5 := HB2.out.trans ((HBX4.out.trans (hb5.mono HBX4.out.size)).mono HB2.out.size)
      have hbk := (hb5.block _ (lt_of_block HBK4.out)).trans HBK4.out
      have k0 := Joins.cell_of_block hbk 0
      have k1 := Joins.cell_of_block hbk 1
      have k2 := Joins.cell_of_block hbk 2
      have k3 := Joins.cell_of_block hbk 3
      simp at k0 k1 k2 k3
      have hlt5 := lt_of_block hbk
      have HB5 := Lib.hid (hB5.alloc hB5.size (.cells #[.int .i64 x0, .int .i64 y0, .int .i64 x1, .int .i64 y1] 44 (0, 0)))
      clear hb5 hbk hB5
      cases pb with
      | true =>
        go_wp2_with fail
        go_ret
        exact ⟨by simp, HB5.out⟩
      | false =>
        go_wp2_with fail
        go_ret
        exact ⟨by simp, HB5.out⟩
    · skip
      have HM := Lib.hid (made_bad ys a cap w HSY.out hbad (by have := HYL.out; omega))
      rw [← HYN.out] at HM
      obtain ⟨er, her⟩ : ∃ er, er = (tidyF ys).2 := ⟨_, rfl⟩
      rw [← her] at HM hbad
      have HER := Lib.hid her
      have g1 : (er == 0) = false := by simpa using hbad
      have g2 : (er != 0) = true := by simpa using hbad
      clear hbad her
      go_enter Try.func6, Try.ntmps6
      go_wp2_with fail
      with_reducible refine HM.out.mono ?_
      rintro e w1 ⟨⟨b, rfl⟩, hb1⟩
      have HB1 := Lib.hid hb1
      have HT := Lib.hid (refTidy_any ys a cap w1 (HSY.out.below (by omega) hb1))
      unfold Tidied at HT
      rw [← HYN.out, ← HER.out] at HT
      clear hb1
      go_wp2_with fail
      with_reducible refine HT.out.mono ?_
      rintro e w2 ⟨v2, rfl, hb2, _⟩
      have HB2 := Lib.hid (HB1.out.trans (hb2.mono HB1.out.size))
      clear hb2
      go_wp2_with fail
      go_ret
      exact ⟨by simp, HB2.out⟩
  · have u1 : decide ((n : Int) > 300) = false := decide_eq_false (by omega)
    have u2 : decide (300 < (n : Int)) = false := decide_eq_false (by omega)
    have u3 : decide (300 < n) = false := decide_eq_false hbig
    have hy : n = yn := by omega
    subst hy
    clear hcut
    by_cases hbad : (tidyF ys).2 = 0
    · skip
      have HM := Lib.hid (made_ok ys a cap w HSY.out hbad (by have := HYL.out; omega))
      rw [← HYN.out] at HM
      have HBAD := Lib.hid hbad
      clear hbad
      go_enter Try.func6, Try.ntmps6
      go_wp2_with fail
      with_reducible refine HM.out.mono ?_
      rintro e w1 ⟨b, lev, r, S, F, rfl, hlev, hr, hI, hF, hB, hG, hW, hden, hlive⟩
      have HB1 := Lib.hid hB
      have HI1 := Lib.hid hI
      have HT := Lib.hid (refTidy_any ys a cap w1 (HSY.out.below (by omega) hB))
      unfold Tidied at HT
      rw [← HYN.out, HBAD.out] at HT
      have HLV := Lib.hid hlev
      have HDEN := Lib.hid hden
      have HF1 := Lib.hid hF
      have HG1 := Lib.hid hG
      have HW1 := Lib.hid hW
      have HLIV := Lib.hid hlive
      clear hlev hr hI hF hB hG hW hden hlive
      go_wp2_with fail
      with_reducible refine HT.out.mono ?_
      rintro e w2 ⟨v2, rfl, hb2, ht2⟩
      have HB2 := Lib.hid (HB1.out.trans (hb2.mono HB1.out.size))
      have HI2 := Lib.hid (HI1.out.below hb2)
      obtain ⟨a2, c2, hv2, _, _⟩ := ht2.form
      subst hv2
      have HT2 := Lib.hid ht2
      have HSL2 := Lib.hid (ht2.sl (by have := tidyF_length ys; omega))
      obtain ⟨k, hk⟩ : ∃ k, lev = k + 1 := ⟨lev - 1, by have := HLV.out.lo; omega⟩
      subst hk
      clear hb2 ht2
      have hden := HDEN.out
      have hb := within_box (by omega) HLV.out.all
      have hs := tidyF_first ys HBAD.out
      have hnd : (tidyF ys).1.Nodup := by rw [hs]; exact rising_nodup (rising_sortF ys)
      have hcn := cnt_build_eq hnd hb
      have hcl := tidyF_length ys
      have hmb := fun z => mem_build (z := z) hb
      obtain ⟨s, hsE⟩ : ∃ s, s = (tidyF ys).1 := ⟨_, rfl⟩
      have hsl := HSL2.out
      rw [← hsE] at hden hcn hcl hmb hsl ⊢
      rw [show k + 1 - 1 = k from rfl] at hden hcn hmb
      obtain ⟨T, hT⟩ : ∃ T, T = buildT (k + 1) (-((2 ^ k : Nat) : Int)) (-((2 ^ k : Nat) : Int)) s := ⟨_, rfl⟩
      rw [← hT] at hden hcn hmb
      have hpw : ((2 ^ k : Nat) : Int) = 2 ^ k := by rw [Int.natCast_pow]; rfl
      rw [hpw] at hmb
      obtain ⟨hbe, hbv⟩ := boxV_is hden.full hmb
      have hbv2 : boxV (k + 1) T = .agg (encBox (boxF s)) := by
        rw [hbv]
        split
        · next h => subst h; rfl
        · rfl
      have hbe2 : (!emB T) = decide (0 < s.length) := by
        rw [hbe]
        cases s with
        | nil => rfl
        | cons c r => simp
      have hco := qcount_any b 3 S F (k + 1) T r w2 HI2.out (by omega) hden (by unfold bigC; omega)
      rw [hcn, show ((3 : Nat) : Int) = (3 : Int) from rfl] at hco
      have hbx := fun (W : World) (hi : IsAr b S W F) => qbox_any b 3 S F k T r W hi (by omega) hden (by have := HLV.out.hi; omega)
      rw [hbv2, hbe2, show ((3 : Nat) : Int) = (3 : Int) from rfl] at hbx
      have hbo := fun (W : World) (hi : Below w2.heap.size w2 W) => refBounds_any s a2 c2 W (hsl.below (by omega) hi)
      unfold Boxed at hbo
      obtain ⟨⟨x0, y0, x1, y1⟩, hBF⟩ : ∃ B, B = boxF s := ⟨_, rfl⟩
      obtain ⟨sn, hsn⟩ : ∃ sn, sn = s.length := ⟨_, rfl⟩
      obtain ⟨pb, hpb⟩ : ∃ pb, pb = decide (0 < s.length) := ⟨_, rfl⟩
      rw [← hsn] at hco ⊢
      rw [← hBF, ← hpb] at hbx hbo
      rw [← hsn] at hbo
      unfold encBox at hbx hbo
      simp only at hbx hbo
      have HCO := Lib.hid hco
      have HBX := Lib.hid hbx
      have HBO := Lib.hid hbo
      clear hden hb hs hnd hcn hcl hmb hsE hT hpw hbe hbv hbv2 hbe2 hco hbx hbo hBF hsn hpb hsl
      go_wp2_with fail
      with_reducible refine HCO.out.mono ?_
      rintro e w3 ⟨rfl, hb3⟩
      have HB3 := Lib.hid hb3
      have HBX3 := Lib.hid (HBX.out w3 (HI2.out.below hb3))
      clear hb3
      go_wp2_with fail
      with_reducible refine HBX3.out.mono ?_
      rintro e w4 ⟨rfl, hb4⟩
      have HB4 := Lib.hid (HB3.out.trans (hb4.mono HB3.out.size))
      obtain ⟨X4, hX4⟩ : ∃ X, X = w4.alloc (.cells #[.int .i64 x0, .int .i64 y0, .int .i64 x1, .int .i64 y1] 44 (0, 0)) := ⟨_, rfl⟩
      have HBX4 := Lib.hid (show Below w2.heap.size w2 X4 by rw [hX4]; exact HB4.out.alloc HB4.out.size _)
      have HBK4 := Lib.hid (show X4.heap[w4.heap.size]? = some (.cells #[.int .i64 x0, .int .i64 y0, .int .i64 x1, .int .i64 y1] 44 (0, 0)) by rw [hX4]; exact blk_last w4 _ rfl)
      have HBO4 := Lib.hid (HBO.out X4 HBX4.out)
      have HX4 := Lib.hid hX4
      clear hb4 hX4
      go_wp2_with fail
      rw [← HX4.out]
      with_reducible refine HBO4.out.mono ?_
      rintro e w5 ⟨rfl, hb5⟩
      have hB5 := HB2.out.trans ((HBX4.out.trans (hb5.mono HBX4.out.size)).mono HB2.out.size)
      have hbk := (hb5.block _ (lt_of_block HBK4.out)).trans HBK4.out
      have k0 := Joins.cell_of_block hbk 0
      have k1 := Joins.cell_of_block hbk 1
      have k2 := Joins.cell_of_block hbk 2
      have k3 := Joins.cell_of_block hbk 3
      simp at k0 k1 k2 k3
      have hlt5 := lt_of_block hbk
      have HB5 := Lib.hid (hB5.alloc hB5.size (.cells #[.int .i64 x0, .int .i64 y0, .int .i64 x1, .int .i64 y1] 44 (0, 0)))
      clear hb5 hbk hB5
      cases pb with
      | true =>
        go_wp2_with fail
        go_ret
        exact ⟨by simp, HB5.out⟩
      | false =>
        go_wp2_with fail
        go_ret
        exact ⟨by simp, HB5.out⟩
    · skip
      have HM := Lib.hid (made_bad ys a cap w HSY.out hbad (by have := HYL.out; omega))
      rw [← HYN.out] at HM
      obtain ⟨er, her⟩ : ∃ er, er = (tidyF ys).2 := ⟨_, rfl⟩
      rw [← her] at HM hbad
      have HER := Lib.hid her
      have g1 : (er == 0) = false := by simpa using hbad
      have g2 : (er != 0) = true := by simpa using hbad
      clear hbad her
      go_enter Try.func6, Try.ntmps6
      go_wp2_with fail
      with_reducible refine HM.out.mono ?_
      rintro e w1 ⟨⟨b, rfl⟩, hb1⟩
      have HB1 := Lib.hid hb1
      have HT := Lib.hid (refTidy_any ys a cap w1 (HSY.out.below (by omega) hb1))
      unfold Tidied at HT
      rw [← HYN.out, ← HER.out] at HT
      clear hb1
      go_wp2_with fail
      with_reducible refine HT.out.mono ?_
      rintro e w2 ⟨v2, rfl, hb2, _⟩
      have HB2 := Lib.hid (HB1.out.trans (hb2.mono HB1.out.size))
      clear hb2
      go_wp2_with fail
      go_ret
      exact ⟨by simp, HB2.out⟩
section
open Go.ChangeShapes Go.WideShapes Go.ChangeAt
set_option maxRecDepth 100000 in
theorem lifted_quadReads (os : Os) (started : os.Started) (H : Type) (enc : TypeId × Value → H)
    (walk : ∀ (W : World) (v0 : Value), Is_cells W v0 → Calls Try.prog 6 #[v0] W fun e w' => e = .returned (.bool true) ∧ Below W.heap.size W w') :
    ReturnsInHanded {} Try.checked os 6 .any (Rows.quadReadsSpec.pre6 enc Try.prog Try.f6 Rows.quadReadsRow.domain false) (Rows.quadReadsSpec.post enc Try.prog Try.f6 false true false false) := by
  refine returnsInHanded_of_change_sized (C := Try.checked) own started (by kernel_rfl) Try.func6
    (ChangeSpec.witness6 (enc := enc) (C := Try.checked) false ⟨#[], #[.slice none 0 0], []⟩ 8 (by kernel_rfl) (by kernel_rfl) (by kernel_rfl) (by kernel_rfl)) ?_
  intro W base args ds gs before hval0 hW hcnd hsz0 _
  have hval : ∀ (j : Nat) t v, Try.f6.params[j]? = some t → args[j]? = some v → Value.okWide Try.prog W .any base t v := hval0
  have hW' := hW
  obtain ⟨p, q, hA0, hV, rfl, hfz, hnd⟩ := hW
  have hA : DataW.TrodAll enc Try.prog W 0 (fun _ => true) true Try.f6.params.toList args.toList ds p := hA0
  rw [Try.params6] at hA hval
  obtain ⟨rfl, rfl⟩ := trodVars_none hV
  have hB := hA
  obtain ⟨v0, vs0, d0, ds0, p0, q0, hargs, rfl, rfl, h0, r0⟩ := trodAll_cons hA
  obtain ⟨rfl, rfl, rfl⟩ := trodAll_nil r0
  obtain rfl : args = #[v0] := by cases args; simp_all
  have hsz : (DataW.weightsEach Try.prog [30] [d0]).all (· ≤ reachBytes) = true := hsz0
  have i0 := open_cells (hval 0 30 v0 rfl rfl) h0 (weights_le hsz 0 rfl rfl)
  refine (walk W v0 i0).mono fun e W' ⟨he, bel⟩ => ?_
  subst he
  exact ⟨_, rfl, _, _, _, [], _, [], hW', trodAll_mk1 (shut_bool Try.underlying4 _), trodAll_below laidOut (by kernel_rfl) hB bel, rfl, bel.frame _, fun h => by cases h⟩

theorem over_quadReads (walk : ∀ (W : World) (v0 : Value), Is_cells W v0 → Calls Try.prog 6 #[v0] W fun e w' => e = .returned (.bool true) ∧ Below W.heap.size W w') :
    Rows.quadReadsRow.holds Try.pinned (OpenSpec.ofChange Rows.quadReadsSpec) :=
  OpenClaim.holds_of_wide 6 Try.f6 rfl rfl rfl rfl rfl rfl rfl ⟨rfl, rfl, rfl, rfl, rfl⟩ rfl rfl rfl rfl rfl (by kernel_rfl) Try.func6 (by kernel_rfl)
    (of_decide_eq_true (by kernel_rfl)) (by unfold Func.isWrapper; first | (rw [if_pos (by decide +kernel)]; kernel_rfl) | (rw [if_neg (by decide +kernel)]; exact ⟨rfl, rfl⟩))
    (fun os started H enc _ => lifted_quadReads os started H enc walk)
end
theorem quadReads_proved : Rows.QuadReadsSaid := over_quadReads fun W _ ⟨zs, ⟨a, cap, e1, hs⟩, _⟩ => by
  subst e1
  exact law_quadReads zs a cap W hs
end Go.Proofs.Ytdmamecfmfhlmaa
