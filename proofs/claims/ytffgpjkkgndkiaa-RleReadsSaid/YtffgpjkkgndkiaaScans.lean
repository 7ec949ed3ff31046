/-
  rle.scan: the cells of a body. (Printed by wip/bin/scangen.py.)
-/
import Derived.Test.YtffgpjkkgndkiaaScanMath
namespace Go.Proofs.Ytffgpjkkgndkiaa
set_option maxRecDepth 100000
open Go.RowKit

theorem clamp_in (M : Nat) (Mi : Int) (hM : Mi = (M : Int)) (a n : Nat) : min ((a : Int) + (n : Int)) Mi = ((min (a + n) M : Nat) : Int) := by subst hM; omega
theorem wrapIn (z : Int) (h0 : 0 ≤ z) (h1 : z < 4000000000000000000) : wrap64 z = z := by simp only [wrap64]; omega
theorem clamp_add (M X n : Nat) : min (min X M + n) M = min (X + n) M := by omega
set_option maxHeartbeats 16000000 in
theorem scan_any (l : List UInt8) (wd ht : Nat) (w : World) (hl : l.length ≤ 140737488351232) (hw : wd < 1000000000000) (hh : ht < 1000000000000) :
    Calls Try.prog 52 #[.string (txt l), .int .i64 wd, .int .i64 ht] w (ScanAs w (scanG wd ht (l.length + 1) l 0 0 [])) := by
  obtain ⟨i0, hi, hz0, hz1, hz2⟩ := info_parts infoCell
  obtain ⟨FIN, hFIN⟩ : ∃ F, F = scanG wd ht (l.length + 1) l 0 0 [] := ⟨_, rfl⟩
  rw [← hFIN]
  have HF0 : Aside (FIN = scanG wd ht (l.length + 1) l 0 0 []) := hFIN
  clear hFIN
  go_enter Try.func52, Try.ntmps52
  go_wp2_with fail
  go_loopw [0, 8, 9, 10] (fun s out x y wr => ∃ (k : Nat) (M : List UInt8) (X Y : Nat) (xs : List (Int × Int)), s = .string (txt M) ∧ x = .int .i64 (min X 2199023255552 : Nat) ∧ y = .int .i64 (min Y 2199023255552 : Nat) ∧ M.length < k ∧ k ≤ l.length + 1 ∧ Aside (FIN = scanG wd ht k M X Y xs) ∧ wr.ownsRow w.heap.size 72 2 out xs.length (xs.flatMap encCell) ∧ xs.length ≤ 4096 ∧ Below w.heap.size w wr) (fun s _ _ _ _ => sizeS s)
  case atStart => exact ⟨l.length + 1, l, 0, 0, [], rfl, rfl, rfl, by omega, Nat.le_refl _, HF0, World.ownsRow_nil _ _ _ _, by simp, Below.refl _ _⟩
  case round =>
    obtain ⟨k1, M, X, Y, xs, rfl, rfl, rfl, hk, hkl, HF, hown, hxl, hB⟩ := hrel
    obtain ⟨va, vc, rfl⟩ := own_form hown
    obtain ⟨k, rfl⟩ : ∃ k, k1 = k + 1 := ⟨k1 - 1, by omega⟩
    have HO := Lib.hid hown
    have HXLE := Lib.hid hxl
    have HB := Lib.hid hB
    obtain ⟨xm, hxm⟩ : ∃ xm, xm = min X 2199023255552 := ⟨_, rfl⟩
    obtain ⟨ym, hym⟩ : ∃ ym, ym = min Y 2199023255552 := ⟨_, rfl⟩
    rw [← hxm, ← hym]
    have hx1 : xm ≤ 2199023255552 := by omega
    have hy1 : ym ≤ 2199023255552 := by omega
    have HXM := Lib.hid hxm
    have HYM := Lib.hid hym
    clear hxm hym
    obtain ⟨xl, hXL⟩ : ∃ xl, xl = xs.length := ⟨_, rfl⟩
    have HXL := Lib.hid hXL
    rw [← hXL] at HO hxl ⊢
    have HOX := Lib.hid (show wr.ownsRow w.heap.size 72 2 (.slice va xl vc) xs.length (xs.flatMap encCell) by rw [← hXL]; exact HO.out)
    clear hown hB hXL HF0
    cases M with
    | nil =>
      have HF2 := Lib.hid (show FIN = ([], 2) by rw [HF.out, scan_none rfl])
      rw [show txt [] = ⟨#[]⟩ from rfl]
      go_wp2_with fail
      refine bodyPost_ret (v := .tuple #[.slice none 0 0, .int .i64 2]) (by simp [results, Try.results52, go_sem]) rfl (ScanAs.no HF2.out HB.out)
    | cons c r =>
      obtain ⟨T, hT, e1, e2, e3, e4, h0, e5⟩ := txt_cons c r
      rw [← hT]
      simp only [List.length_cons] at hk
      cases hd : isD c
      · have HST := Lib.hid (step_plain (r := r) hd)
        have hcase : c = 32 ∨ c = 10 ∨ c = 9 ∨ c = 13 ∨ c = 33 ∨ c = 36 ∨ c = 98 ∨ c = 111 ∨ ((c.toNat < 48 ∨ 57 < c.toNat) ∧ c.toNat ≠ 32 ∧ c.toNat ≠ 10 ∧ c.toNat ≠ 9 ∧ c.toNat ≠ 13 ∧ c.toNat ≠ 33 ∧ c.toNat ≠ 36 ∧ c.toNat ≠ 98 ∧ c.toNat ≠ 111) := by
          have hn : ¬ (48 ≤ c.toNat ∧ c.toNat ≤ 57) := fun h => by rw [isD_iff.2 h] at hd; cases hd
          by_cases a1 : c.toNat = 32
          · exact .inl (byte_is a1 _ rfl)
          by_cases a2 : c.toNat = 10
          · exact .inr (.inl (byte_is a2 _ rfl))
          by_cases a3 : c.toNat = 9
          · exact .inr (.inr (.inl (byte_is a3 _ rfl)))
          by_cases a4 : c.toNat = 13
          · exact .inr (.inr (.inr (.inl (byte_is a4 _ rfl))))
          by_cases a5 : c.toNat = 33
          · exact .inr (.inr (.inr (.inr (.inl (byte_is a5 _ rfl)))))
          by_cases a6 : c.toNat = 36
          · exact .inr (.inr (.inr (.inr (.inr (.inl (byte_is a6 _ rfl))))))
          by_cases a7 : c.toNat = 98
          · exact .inr (.inr (.inr (.inr (.inr (.inr (.inl (byte_is a7 _ rfl)))))))
          by_cases a8 : c.toNat = 111
          · exact .inr (.inr (.inr (.inr (.inr (.inr (.inr (.inl (byte_is a8 _ rfl))))))))
          exact .inr (.inr (.inr (.inr (.inr (.inr (.inr (.inr ⟨by omega, a1, a2, a3, a4, a5, a6, a7, a8⟩)))))))
        clear hd hT
        rcases hcase with rfl | rfl | rfl | rfl | rfl | rfl | rfl | rfl | hbad
        · have e5 : T[0].toNat = 32 := e5
          have hfin : FIN = scanG wd ht k r X Y xs := by rw [HF.out, scan_ws HST.out (by decide)]
          have HF2 := Lib.hid hfin
          clear hfin
          go_wp2_with fail
          exact ⟨⟨k, r, X, Y, xs, rfl, by rw [HXM.out], by rw [HYM.out], by omega, by omega, HF2.out, HOX.out, HXLE.out, HB.out⟩, by simp [sizeS, txt_size, e4]; try omega⟩
        · have e5 : T[0].toNat = 10 := e5
          have hfin : FIN = scanG wd ht k r X Y xs := by rw [HF.out, scan_ws HST.out (by decide)]
          have HF2 := Lib.hid hfin
          clear hfin
          go_wp2_with fail
          exact ⟨⟨k, r, X, Y, xs, rfl, by rw [HXM.out], by rw [HYM.out], by omega, by omega, HF2.out, HOX.out, HXLE.out, HB.out⟩, by simp [sizeS, txt_size, e4]; try omega⟩
        · have e5 : T[0].toNat = 9 := e5
          have hfin : FIN = scanG wd ht k r X Y xs := by rw [HF.out, scan_ws HST.out (by decide)]
          have HF2 := Lib.hid hfin
          clear hfin
          go_wp2_with fail
          exact ⟨⟨k, r, X, Y, xs, rfl, by rw [HXM.out], by rw [HYM.out], by omega, by omega, HF2.out, HOX.out, HXLE.out, HB.out⟩, by simp [sizeS, txt_size, e4]; try omega⟩
        · have e5 : T[0].toNat = 13 := e5
          have hfin : FIN = scanG wd ht k r X Y xs := by rw [HF.out, scan_ws HST.out (by decide)]
          have HF2 := Lib.hid hfin
          clear hfin
          go_wp2_with fail
          exact ⟨⟨k, r, X, Y, xs, rfl, by rw [HXM.out], by rw [HYM.out], by omega, by omega, HF2.out, HOX.out, HXLE.out, HB.out⟩, by simp [sizeS, txt_size, e4]; try omega⟩
        · have e5 : T[0].toNat = 33 := e5
          have hfin : FIN = (xs, 0) := by rw [HF.out, scan_end HST.out]
          have HF2 := Lib.hid hfin
          clear hfin
          go_wp2_with fail
          refine bodyPost_ret (v := .tuple #[.slice va xl vc, .int .i64 0]) (by simp [results, Try.results52, go_sem]) rfl ⟨.slice va xl vc, by rw [HF2.out], HB.out, by rw [HF2.out]; exact Tight.of_own (by rw [← HXL.out]; exact HO.out)⟩
        · have e5 : T[0].toNat = 36 := e5
          have hfin : FIN = scanG wd ht k r 0 (Y + 1) xs := by rw [HF.out, scan_line HST.out]
          have HF2 := Lib.hid hfin
          obtain ⟨ym2, hym2⟩ : ∃ ym2, ym2 = min (Y + 1) 2199023255552 := ⟨_, rfl⟩
          have hmin : min ((ym : Int) + 1) (2199023255552 : Int) = (ym2 : Int) := (clamp_in 2199023255552 2199023255552 rfl ym 1).trans (by rw [HYM.out, clamp_add, ← hym2])
          have HY2 := Lib.hid hym2
          clear hfin hym2
          go_wp2_with fail
          exact ⟨⟨k, r, 0, Y + 1, xs, rfl, by simp, by rw [← HY2.out], by omega, by omega, HF2.out, HOX.out, HXLE.out, HB.out⟩, by simp [sizeS, txt_size, e4]; try omega⟩
        · have e5 : T[0].toNat = 98 := e5
          have hfin : FIN = scanG wd ht k r (X + 1) Y xs := by rw [HF.out, scan_dead HST.out]
          have HF2 := Lib.hid hfin
          obtain ⟨xm2, hxm2⟩ : ∃ xm2, xm2 = min (X + 1) 2199023255552 := ⟨_, rfl⟩
          have hmin : min ((xm : Int) + 1) (2199023255552 : Int) = (xm2 : Int) := (clamp_in 2199023255552 2199023255552 rfl xm 1).trans (by rw [HXM.out, clamp_add, ← hxm2])
          have HX2 := Lib.hid hxm2
          clear hfin hxm2
          go_wp2_with fail
          go_loopw [8, 14] (fun o i wz => o = .slice va xl vc ∧ i = .int .i64 0 ∧ wz = wr) (fun _ _ _ => 0)
          case atStart => exact ⟨rfl, rfl, rfl⟩
          case round =>
            obtain ⟨rfl, rfl, hW⟩ := hrel
            subst hW
            go_wp2_with fail
            exact ⟨⟨k, r, X + 1, Y, xs, rfl, by rw [← HX2.out], by rw [HYM.out], by omega, by omega, HF2.out, HOX.out, HXLE.out, HB.out⟩, by simp [sizeS, txt_size, e4]; try omega⟩
        · have e5 : T[0].toNat = 111 := e5
          have hfin : FIN = if ht ≤ Y ∨ wd < X + 1 then ([], 3) else if 4096 < xs.length + 1 then ([], 5) else scanG wd ht k r (X + 1) Y (xs ++ rowF X Y 1) := by rw [HF.out, scan_live HST.out]
          have hxm := HXM.out
          have hym := HYM.out
          by_cases g1 : ht ≤ Y
          · have HF2 := Lib.hid (show FIN = ([], 3) by rw [hfin, if_pos (.inl g1)])
            have t1 : decide ((ht : Int) ≤ (ym : Int)) = true := decide_eq_true (by omega)
            have t1' : decide (ht ≤ ym) = true := decide_eq_true (by omega)
            clear hfin hxm hym g1
            go_wp2_with fail
            refine bodyPost_ret (v := .tuple #[.slice none 0 0, .int .i64 3]) (by simp [results, Try.results52, go_sem]) rfl (ScanAs.no HF2.out HB.out)
          · by_cases g2 : wd < X + 1
            · have HF2 := Lib.hid (show FIN = ([], 3) by rw [hfin, if_pos (.inr g2)])
              have t1 : decide ((ht : Int) ≤ (ym : Int)) = false := decide_eq_false (by omega)
              have t1' : decide (ht ≤ ym) = false := decide_eq_false (by omega)
              have t2 : decide ((wd : Int) - (xm : Int) < 1) = true := decide_eq_true (by omega)
              clear hfin hxm hym g1 g2
              go_wp2_with fail
              refine bodyPost_ret (v := .tuple #[.slice none 0 0, .int .i64 3]) (by simp [results, Try.results52, go_sem]) rfl (ScanAs.no HF2.out HB.out)
            · have hxe : xm = X := by omega
              have hye : ym = Y := by omega
              have t1 : decide ((ht : Int) ≤ (ym : Int)) = false := decide_eq_false (by omega)
              have t1' : decide (ht ≤ ym) = false := decide_eq_false (by omega)
              have t2 : decide ((wd : Int) - (xm : Int) < 1) = false := decide_eq_false (by omega)
              rw [if_neg (by omega)] at hfin
              subst hxe
              subst hye
              have hxs : xm + 1 ≤ wd := by omega
              have hys : ym < ht := by omega
              clear hxm hym g1 g2
              rw [← HXL.out] at hfin
              by_cases g3 : 4096 < xl + 1
              · have HF2 := Lib.hid (show FIN = ([], 5) by rw [hfin, if_pos g3])
                have t3 : decide ((4096 : Int) < (xl : Int) + 1) = true := decide_eq_true (by omega)
                clear hfin g3
                go_wp2_with fail
                refine bodyPost_ret (v := .tuple #[.slice none 0 0, .int .i64 5]) (by simp [results, Try.results52, go_sem]) rfl (ScanAs.no HF2.out HB.out)
              · rw [if_neg g3] at hfin
                have HF2 := Lib.hid hfin
                have t3 : decide ((4096 : Int) < (xl : Int) + 1) = false := decide_eq_false (by omega)
                have hcap : xl + 1 ≤ 4096 := by omega
                clear hfin g3
                have HO2 := Lib.hid HO.out
                go_wp2_with fail
                obtain ⟨V, hV⟩ : ∃ V, V = wr := ⟨_, rfl⟩
                subst hV
                go_loopw [8, 14] (fun out i wr => ∃ j : Nat, i = .int .i64 j ∧ j ≤ 1 ∧ wr.ownsRow w.heap.size 72 2 out (xl + j) ((xs ++ rowF xm ym j).flatMap encCell) ∧ Below w.heap.size w wr) (fun _ i _ => 1 - (intOf i).toNat)
                case atStart => exact ⟨0, rfl, Nat.zero_le _, by simpa [rowF] using HO2.out, HB.out⟩
                case round =>
                  clear HO2 HO HB
                  obtain ⟨j, rfl, hj, hown, hB2⟩ := hrel
                  obtain ⟨va, vc, rfl⟩ := own_form hown
                  have hz := hB2.size
                  by_cases hjn : j < 1
                  · have t4 : decide ((j : Int) < 1) = true := decide_eq_true (by omega)
                    have hrow := rowF_succ xm ym j
                    have HROW := Lib.hid hrow
                    clear hrow
                    obtain ⟨fl, hfl⟩ : ∃ fl, fl = (xs ++ rowF xm ym j).flatMap encCell := ⟨_, rfl⟩
                    rw [← hfl] at hown
                    have HFL := Lib.hid hfl
                    clear hfl
                    go_wp2_with (at_builtin; refine wpList_append_lies _ rfl _ _ 22 rfl w.heap.size 72 i0 _ 2 16 Try.underlying22 hi hz0 hz1 hz2 rfl (by omega) (.slice va (xl + j) vc) (xl + j) fl rfl (hown.alloc _) ⟨wr.heap.size, 0, none⟩ 1 1 [.int .i64 ((xm : Int) + (j : Int)), .int .i64 ym] rfl rfl (news_alloc _ _ _ (by simp)) (by simp [Value.oneCell']) (by omega) (by unfold maxLen; omega) (by omega) (by simp; omega) (wr.heap.size + 1) (by simp) ?_; intro g cap1 w7 hown1 hgrow1 hat1 hlt1)
                    refine ⟨⟨j + 1, by go_num, by omega, ?_, ?_⟩, by simp [intOf]; omega⟩
                    · have he : fl ++ [.int .i64 ((xm : Int) + (j : Int)), .int .i64 ym] = (xs ++ rowF xm ym (j + 1)).flatMap encCell := by
                        rw [HROW.out, ← List.append_assoc, List.flatMap_append, ← HFL.out]
                        simp [encCell]
                      rw [← he]
                      exact hown1
                    · exact (hB2.alloc hz _).grown hgrow1 (by simp; omega) (fun q hq => (hown.lt q hq).1)
                  · obtain rfl : 1 = j := by omega
                    have t4 : decide ((1 : Int) < 1) = false := decide_eq_false (by omega)
                    have hlen : (xs ++ rowF xm ym 1).length = xl + 1 := by rw [List.length_append, rowF_length, HXL.out]
                    have hle : xm + 1 ≤ 2199023255552 := by omega
                    have HLX := Lib.hid hle
                    have HLY := Lib.hid (show ym ≤ 2199023255552 by omega)
                    obtain ⟨xm2, hxm2⟩ : ∃ xm2, xm2 = xm + 1 := ⟨_, rfl⟩
                    have hmin : min ((xm : Int) + 1) (2199023255552 : Int) = (xm2 : Int) := (clamp_in 2199023255552 2199023255552 rfl xm 1).trans (by rw [Nat.min_eq_left hle, hxm2])
                    have HX2 := Lib.hid hxm2
                    clear hxm2 hle
                    have HOW := Lib.hid hown
                    have HB3 := Lib.hid hB2
                    clear hown hB2
                    go_wp2_with fail
                    exact ⟨⟨k, r, xm + 1, ym, xs ++ rowF xm ym 1, rfl, by rw [Nat.min_eq_left HLX.out, HX2.out], by rw [Nat.min_eq_left HLY.out], by omega, by omega, HF2.out, by rw [hlen]; exact HOW.out, by rw [hlen]; exact hcap, HB3.out⟩, by simp [sizeS, txt_size, e4]; try omega⟩
        · obtain ⟨hrange, b1, b2, b3, b4, b5, b6, b7, b8⟩ := hbad
          obtain ⟨y, hy⟩ : ∃ y, c.toNat = y := ⟨_, rfl⟩
          rw [hy] at e5 hrange b1 b2 b3 b4 b5 b6 b7 b8
          have hylt : y < 256 := by rw [← hy]; exact UInt8.toNat_lt _
          have f0 : ((y : Int) == 32) = false := by simp <;> omega
          have f1 : ((y : Int) == 10) = false := by simp <;> omega
          have f2 : ((y : Int) == 9) = false := by simp <;> omega
          have f3 : ((y : Int) == 13) = false := by simp <;> omega
          have f4 : ((y : Int) == 33) = false := by simp <;> omega
          have f5 : ((y : Int) == 36) = false := by simp <;> omega
          have f6 : ((y : Int) == 98) = false := by simp <;> omega
          have f7 : ((y : Int) == 111) = false := by simp <;> omega
          rcases hrange with hrange | hrange
          · have hfin : FIN = ([], 2) := by
              rw [HF.out, scan_bad HST.out]
              · rintro (h | h | h | h) <;> (rw [h] at hy; simp at hy; omega)
              all_goals (intro h; rw [h] at hy; simp at hy; omega)
            have HF2 := Lib.hid hfin
            clear hfin hy
            go_wp2_with fail
            refine bodyPost_ret (v := .tuple #[.slice none 0 0, .int .i64 2]) (by simp [results, Try.results52, go_sem]) rfl (ScanAs.no HF2.out HB.out)
          · have hfin : FIN = ([], 2) := by
              rw [HF.out, scan_bad HST.out]
              · rintro (h | h | h | h) <;> (rw [h] at hy; simp at hy; omega)
              all_goals (intro h; rw [h] at hy; simp at hy; omega)
            have HF2 := Lib.hid hfin
            clear hfin hy
            go_wp2_with fail
            refine bodyPost_ret (v := .tuple #[.slice none 0 0, .int .i64 2]) (by simp [results, Try.results52, go_sem]) rfl (ScanAs.no HF2.out HB.out)
      · have hstep := step_digit (r := r) hd
        have hnum := fun W => number_any (c :: r) W (by simp only [List.length_cons]; omega)
        rw [← hT] at hnum
        have hrng := isD_iff.1 hd
        obtain ⟨y0, hy0⟩ : ∃ y, c.toNat = y := ⟨_, rfl⟩
        rw [hy0] at e5 hrng
        cases hok : okN (c :: r)
        · rw [hok] at hnum
          have HF2 := Lib.hid (show FIN = ([], 2) by rw [HF.out, scan_none (by rw [hstep, hok]; rfl)])
          obtain ⟨T2, hT2⟩ : ∃ T2, T2 = txt ((c :: r).drop (numK (c :: r))) := ⟨_, rfl⟩
          rw [← hT2] at hnum
          have HNUM := Lib.hid hnum
          clear hd hT hstep hnum hy0 hok hT2
          go_wp2_with fail
          refine (HNUM.out _).mono ?_
          rintro e W2 ⟨rfl, hx2⟩
          have HB := Lib.hid (HB.out.trans (hx2.mono HB.out.size))
          clear hx2
          go_wp2_with fail
          refine bodyPost_ret (v := .tuple #[.slice none 0 0, .int .i64 2]) (by simp [results, Try.results52, go_sem]) rfl (ScanAs.no HF2.out HB.out)
        · have hk2 : numK (c :: r) = digs (c :: r) := by have := (okN_iff.1 hok).2.1; unfold numK; omega
          have hvlt := valN_lt (c :: r) (okN_iff.1 hok).2.1
          rw [hok] at hnum
          rw [hk2] at hnum
          have hafl : (aftN (c :: r)).length ≤ r.length + 1 := by rw [aftN, List.length_drop]; simp only [List.length_cons]; omega
          have hnum2 : ∀ W, Calls Try.prog 101 #[.string T] W fun e w' => e = .returned (.tuple #[.int .i64 (valN (c :: r) : Nat), .string (txt (aftN (c :: r))), .bool true]) ∧ Below W.heap.size W w' := hnum
          obtain ⟨n, hn⟩ : ∃ n, n = valN (c :: r) := ⟨_, rfl⟩
          rw [← hn] at hnum2 hvlt hstep
          rw [hok] at hstep
          obtain ⟨A, hA⟩ : ∃ A, A = aftN (c :: r) := ⟨_, rfl⟩
          rw [← hA] at hnum2 hafl hstep
          by_cases hn0 : n = 0
          · have HF2 := Lib.hid (show FIN = ([], 2) by rw [HF.out, scan_none (by rw [hstep, if_neg (by rintro ⟨_, h⟩; exact h hn0)])])
            obtain ⟨T2, hT2⟩ : ∃ T2, T2 = txt A := ⟨_, rfl⟩
            rw [← hT2, hn0] at hnum2
            have HNUM := Lib.hid hnum2
            clear hd hT hstep hnum hnum2 hy0 hok hT2 hn hA hn0
            go_wp2_with fail
            refine (HNUM.out _).mono ?_
            rintro e W2 ⟨rfl, hx2⟩
            have HB := Lib.hid (HB.out.trans (hx2.mono HB.out.size))
            clear hx2
            go_wp2_with fail
            refine bodyPost_ret (v := .tuple #[.slice none 0 0, .int .i64 2]) (by simp [results, Try.results52, go_sem]) rfl (ScanAs.no HF2.out HB.out)
          · have hstep : stepF (c :: r) = _ := hstep.trans (if_pos ⟨rfl, hn0⟩)
            have hnz : ((n : Int) == 0) = false := by simp; omega
            have hnz' : (n == 0) = false := by simp; omega
            have hn1 : 1 ≤ n := by omega
            cases A with
            | nil =>
              have HF2 := Lib.hid (show FIN = ([], 2) by rw [HF.out, scan_none hstep])
              have HNUM := Lib.hid hnum2
              clear hd hT hstep hnum hnum2 hy0 hok hn hA hn0
              go_wp2_with fail
              refine (HNUM.out _).mono ?_
              rintro e W2 ⟨rfl, hx2⟩
              have HB := Lib.hid (HB.out.trans (hx2.mono HB.out.size))
              clear hx2
              rw [show txt [] = ⟨#[]⟩ from rfl]
              go_wp2_with fail
              refine bodyPost_ret (v := .tuple #[.slice none 0 0, .int .i64 2]) (by simp [results, Try.results52, go_sem]) rfl (ScanAs.no HF2.out HB.out)
            | cons d t =>
              simp only [List.length_cons] at hafl
              obtain ⟨T2, hT2, a1, a2, a3, a4, a0, a5⟩ := txt_cons d t
              rw [← hT2] at hnum2
              have hix := indexByte_any [98, 111, 36] d
              obtain ⟨yd, hyd⟩ : ∃ y, d.toNat = y := ⟨_, rfl⟩
              have hydlt : yd < 256 := by rw [← hyd]; exact UInt8.toNat_lt _
              rw [hyd] at a5 hix
              have HNUM := Lib.hid hnum2
              by_cases hin : d = 98 ∨ d = 111 ∨ d = 36
              · have hst : stepF (c :: r) = some (n, d, t) := hstep.trans (if_pos hin)
                have HST := Lib.hid hst
                have e4' : T.size = r.length + 1 := e4
                clear hd hT hstep hnum hnum2 hy0 hok hn hA hn0 hT2 hst
                rcases hin with rfl | rfl | rfl
                · have hyd : yd = 98 := hyd.symm.trans rfl
                  subst hyd
                  rw [show Lib.indexByte [98, 111, 36] 98 = 0 from rfl] at hix
                  have HIX := Lib.hid hix
                  clear hix
                  go_wp2_with fail
                  refine (HNUM.out _).mono ?_
                  rintro e W2 ⟨rfl, hx2⟩
                  have HOW2 := Lib.hid (own_below HO.out (hx2.mono (Nat.le_refl _)))
                  have HOXW := Lib.hid (own_below HOX.out hx2)
                  have HBW := Lib.hid (HB.out.trans (hx2.mono HB.out.size))
                  clear hx2 HO HOX HB
                  have HO := HOW2
                  have HOX := HOXW
                  have HB := HBW
                  clear HOW2 HOXW HBW
                  go_wp2_with fail
                  refine (HIX.out _).mono ?_
                  rintro e wr ⟨rfl, hW3⟩
                  subst hW3
                  have hfin : FIN = scanG wd ht k t (X + n) Y xs := by rw [HF.out, scan_dead HST.out]
                  have HF2 := Lib.hid hfin
                  obtain ⟨xm2, hxm2⟩ : ∃ xm2, xm2 = min (X + n) 2199023255552 := ⟨_, rfl⟩
                  have hmin : min ((xm : Int) + (n : Int)) (2199023255552 : Int) = (xm2 : Int) := (clamp_in 2199023255552 2199023255552 rfl xm n).trans (by rw [HXM.out, clamp_add, ← hxm2])
                  have HX2 := Lib.hid hxm2
                  clear hfin hxm2
                  go_wp2_with fail
                  go_loopw [8, 14] (fun o i wz => o = .slice va xl vc ∧ i = .int .i64 0 ∧ wz = wr) (fun _ _ _ => 0)
                  case atStart => exact ⟨rfl, rfl, rfl⟩
                  case round =>
                    obtain ⟨rfl, rfl, hW⟩ := hrel
                    subst hW
                    go_wp2_with fail
                    exact ⟨⟨k, t, X + n, Y, xs, rfl, by rw [← HX2.out], by rw [HYM.out], by omega, by omega, HF2.out, HOX.out, HXLE.out, HB.out⟩, by simp [sizeS, txt_size, e4]; try omega⟩
                · have hyd : yd = 111 := hyd.symm.trans rfl
                  subst hyd
                  rw [show Lib.indexByte [98, 111, 36] 111 = 1 from rfl] at hix
                  have HIX := Lib.hid hix
                  clear hix
                  go_wp2_with fail
                  refine (HNUM.out _).mono ?_
                  rintro e W2 ⟨rfl, hx2⟩
                  have HOW2 := Lib.hid (own_below HO.out (hx2.mono (Nat.le_refl _)))
                  have HOXW := Lib.hid (own_below HOX.out hx2)
                  have HBW := Lib.hid (HB.out.trans (hx2.mono HB.out.size))
                  clear hx2 HO HOX HB
                  have HO := HOW2
                  have HOX := HOXW
                  have HB := HBW
                  clear HOW2 HOXW HBW
                  go_wp2_with fail
                  refine (HIX.out _).mono ?_
                  rintro e wr ⟨rfl, hW3⟩
                  subst hW3
                  have hfin : FIN = if ht ≤ Y ∨ wd < X + n then ([], 3) else if 4096 < xs.length + n then ([], 5) else scanG wd ht k t (X + n) Y (xs ++ rowF X Y n) := by rw [HF.out, scan_live HST.out]
                  have hxm := HXM.out
                  have hym := HYM.out
                  by_cases g1 : ht ≤ Y
                  · have HF2 := Lib.hid (show FIN = ([], 3) by rw [hfin, if_pos (.inl g1)])
                    have t1 : decide ((ht : Int) ≤ (ym : Int)) = true := decide_eq_true (by omega)
                    have t1' : decide (ht ≤ ym) = true := decide_eq_true (by omega)
                    clear hfin hxm hym g1
                    go_wp2_with fail
                    refine bodyPost_ret (v := .tuple #[.slice none 0 0, .int .i64 3]) (by simp [results, Try.results52, go_sem]) rfl (ScanAs.no HF2.out HB.out)
                  · by_cases g2 : wd < X + n
                    · have HF2 := Lib.hid (show FIN = ([], 3) by rw [hfin, if_pos (.inr g2)])
                      have t1 : decide ((ht : Int) ≤ (ym : Int)) = false := decide_eq_false (by omega)
                      have t1' : decide (ht ≤ ym) = false := decide_eq_false (by omega)
                      have t2 : decide ((wd : Int) - (xm : Int) < (n : Int)) = true := decide_eq_true (by omega)
                      clear hfin hxm hym g1 g2
                      go_wp2_with fail
                      refine bodyPost_ret (v := .tuple #[.slice none 0 0, .int .i64 3]) (by simp [results, Try.results52, go_sem]) rfl (ScanAs.no HF2.out HB.out)
                    · have hxe : xm = X := by omega
                      have hye : ym = Y := by omega
                      have t1 : decide ((ht : Int) ≤ (ym : Int)) = false := decide_eq_false (by omega)
                      have t1' : decide (ht ≤ ym) = false := decide_eq_false (by omega)
                      have t2 : decide ((wd : Int) - (xm : Int) < (n : Int)) = false := decide_eq_false (by omega)
                      rw [if_neg (by omega)] at hfin
                      subst hxe
                      subst hye
                      have hxs : xm + n ≤ wd := by omega
                      have hys : ym < ht := by omega
                      clear hxm hym g1 g2
                      rw [← HXL.out] at hfin
                      by_cases g3 : 4096 < xl + n
                      · have HF2 := Lib.hid (show FIN = ([], 5) by rw [hfin, if_pos g3])
                        have t3 : decide ((4096 : Int) < (xl : Int) + (n : Int)) = true := decide_eq_true (by omega)
                        clear hfin g3
                        go_wp2_with fail
                        refine bodyPost_ret (v := .tuple #[.slice none 0 0, .int .i64 5]) (by simp [results, Try.results52, go_sem]) rfl (ScanAs.no HF2.out HB.out)
                      · rw [if_neg g3] at hfin
                        have HF2 := Lib.hid hfin
                        have t3 : decide ((4096 : Int) < (xl : Int) + (n : Int)) = false := decide_eq_false (by omega)
                        have hcap : xl + n ≤ 4096 := by omega
                        clear hfin g3
                        have HO2 := Lib.hid HO.out
                        go_wp2_with fail
                        obtain ⟨V, hV⟩ : ∃ V, V = wr := ⟨_, rfl⟩
                        subst hV
                        go_loopw [8, 14] (fun out i wr => ∃ j : Nat, i = .int .i64 j ∧ j ≤ n ∧ wr.ownsRow w.heap.size 72 2 out (xl + j) ((xs ++ rowF xm ym j).flatMap encCell) ∧ Below w.heap.size w wr) (fun _ i _ => n - (intOf i).toNat)
                        case atStart => exact ⟨0, rfl, Nat.zero_le _, by simpa [rowF] using HO2.out, HB.out⟩
                        case round =>
                          clear HO2 HO HB
                          obtain ⟨j, rfl, hj, hown, hB2⟩ := hrel
                          obtain ⟨va, vc, rfl⟩ := own_form hown
                          have hz := hB2.size
                          by_cases hjn : j < n
                          · have t4 : decide ((j : Int) < (n : Int)) = true := decide_eq_true (by omega)
                            have hrow := rowF_succ xm ym j
                            have HROW := Lib.hid hrow
                            clear hrow
                            obtain ⟨fl, hfl⟩ : ∃ fl, fl = (xs ++ rowF xm ym j).flatMap encCell := ⟨_, rfl⟩
                            rw [← hfl] at hown
                            have HFL := Lib.hid hfl
                            clear hfl
                            go_wp2_with (at_builtin; refine wpList_append_lies _ rfl _ _ 22 rfl w.heap.size 72 i0 _ 2 16 Try.underlying22 hi hz0 hz1 hz2 rfl (by omega) (.slice va (xl + j) vc) (xl + j) fl rfl (hown.alloc _) ⟨wr.heap.size, 0, none⟩ 1 1 [.int .i64 ((xm : Int) + (j : Int)), .int .i64 ym] rfl rfl (news_alloc _ _ _ (by simp)) (by simp [Value.oneCell']) (by omega) (by unfold maxLen; omega) (by omega) (by simp; omega) (wr.heap.size + 1) (by simp) ?_; intro g cap1 w7 hown1 hgrow1 hat1 hlt1)
                            refine ⟨⟨j + 1, by go_num, by omega, ?_, ?_⟩, by simp [intOf]; omega⟩
                            · have he : fl ++ [.int .i64 ((xm : Int) + (j : Int)), .int .i64 ym] = (xs ++ rowF xm ym (j + 1)).flatMap encCell := by
                                rw [HROW.out, ← List.append_assoc, List.flatMap_append, ← HFL.out]
                                simp [encCell]
                              rw [← he]
                              exact hown1
                            · exact (hB2.alloc hz _).grown hgrow1 (by simp; omega) (fun q hq => (hown.lt q hq).1)
                          · obtain rfl : n = j := by omega
                            have t4 : decide (((n : Int) : Int) < (n : Int)) = false := decide_eq_false (by omega)
                            have hlen : (xs ++ rowF xm ym n).length = xl + n := by rw [List.length_append, rowF_length, HXL.out]
                            have hle : xm + n ≤ 2199023255552 := by omega
                            have HLX := Lib.hid hle
                            have HLY := Lib.hid (show ym ≤ 2199023255552 by omega)
                            obtain ⟨xm2, hxm2⟩ : ∃ xm2, xm2 = xm + n := ⟨_, rfl⟩
                            have hmin : min ((xm : Int) + (n : Int)) (2199023255552 : Int) = (xm2 : Int) := (clamp_in 2199023255552 2199023255552 rfl xm n).trans (by rw [Nat.min_eq_left hle, hxm2])
                            have HX2 := Lib.hid hxm2
                            clear hxm2 hle
                            have HOW := Lib.hid hown
                            have HB3 := Lib.hid hB2
                            clear hown hB2
                            go_wp2_with fail
                            exact ⟨⟨k, t, xm + n, ym, xs ++ rowF xm ym n, rfl, by rw [Nat.min_eq_left HLX.out, HX2.out], by rw [Nat.min_eq_left HLY.out], by omega, by omega, HF2.out, by rw [hlen]; exact HOW.out, by rw [hlen]; exact hcap, HB3.out⟩, by simp [sizeS, txt_size, e4]; try omega⟩
                · have hyd : yd = 36 := hyd.symm.trans rfl
                  subst hyd
                  rw [show Lib.indexByte [98, 111, 36] 36 = 2 from rfl] at hix
                  have HIX := Lib.hid hix
                  clear hix
                  go_wp2_with fail
                  refine (HNUM.out _).mono ?_
                  rintro e W2 ⟨rfl, hx2⟩
                  have HOW2 := Lib.hid (own_below HO.out (hx2.mono (Nat.le_refl _)))
                  have HOXW := Lib.hid (own_below HOX.out hx2)
                  have HBW := Lib.hid (HB.out.trans (hx2.mono HB.out.size))
                  clear hx2 HO HOX HB
                  have HO := HOW2
                  have HOX := HOXW
                  have HB := HBW
                  clear HOW2 HOXW HBW
                  go_wp2_with fail
                  refine (HIX.out _).mono ?_
                  rintro e wr ⟨rfl, hW3⟩
                  subst hW3
                  have hfin : FIN = scanG wd ht k t 0 (Y + n) xs := by rw [HF.out, scan_line HST.out]
                  have HF2 := Lib.hid hfin
                  obtain ⟨ym2, hym2⟩ : ∃ ym2, ym2 = min (Y + n) 2199023255552 := ⟨_, rfl⟩
                  have hmin : min ((ym : Int) + (n : Int)) (2199023255552 : Int) = (ym2 : Int) := (clamp_in 2199023255552 2199023255552 rfl ym n).trans (by rw [HYM.out, clamp_add, ← hym2])
                  have HY2 := Lib.hid hym2
                  clear hfin hym2
                  go_wp2_with fail
                  exact ⟨⟨k, t, 0, Y + n, xs, rfl, by simp, by rw [← HY2.out], by omega, by omega, HF2.out, HOX.out, HXLE.out, HB.out⟩, by simp [sizeS, txt_size, e4]; try omega⟩
              · have hst : stepF (c :: r) = none := hstep.trans (if_neg hin)
                have HF2 := Lib.hid (show FIN = ([], 2) by rw [HF.out, scan_none hst])
                have hix1 : Lib.indexByte [98, 111, 36] d = -1 := by
                  have n1 : ((98 : UInt8) == d) = false := by simp; intro h; exact hin (.inl h.symm)
                  have n2 : ((111 : UInt8) == d) = false := by simp; intro h; exact hin (.inr (.inl h.symm))
                  have n3 : ((36 : UInt8) == d) = false := by simp; intro h; exact hin (.inr (.inr h.symm))
                  simp [Lib.indexByte, n1, n2, n3]
                rw [hix1] at hix
                have HIX := Lib.hid hix
                clear hd hT hstep hnum hnum2 hy0 hok hn hA hn0 hT2 hst hix hin hyd hix1
                go_wp2_with fail
                refine (HNUM.out _).mono ?_
                rintro e W2 ⟨rfl, hx2⟩
                have HB := Lib.hid (HB.out.trans (hx2.mono HB.out.size))
                clear hx2
                go_wp2_with fail
                refine (HIX.out _).mono ?_
                rintro e W3 ⟨rfl, hW3⟩
                subst hW3
                go_wp2_with fail
                refine bodyPost_ret (v := .tuple #[.slice none 0 0, .int .i64 2]) (by simp [results, Try.results52, go_sem]) rfl (ScanAs.no HF2.out HB.out)
end Go.Proofs.Ytffgpjkkgndkiaa
