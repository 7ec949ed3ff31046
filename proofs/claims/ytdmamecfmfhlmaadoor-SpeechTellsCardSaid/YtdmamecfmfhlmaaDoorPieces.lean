/-
  A piece laid on a line: (*rle.writer).piece.
-/
import Derived.Test.YtdmamecfmfhlmaaDoorWriter
import Derived.Test.YtdmamecfmfhlmaaDoorWriteMath
import Derived.Test.YtdmamecfmfhlmaaDoorItoas
namespace Go.Proofs.YtdmamecfmfhlmaaDoor
set_option maxRecDepth 100000
open Go.RowKit

theorem conv36 (w : World) : (convert 5 9 (.int .u8 36)).run Tryd.prog w = .ok (.string (txt [36])) w := by kernel_rfl
theorem conv98 (w : World) : (convert 5 9 (.int .u8 98)).run Tryd.prog w = .ok (.string (txt [98])) w := by kernel_rfl
theorem conv111 (w : World) : (convert 5 9 (.int .u8 111)).run Tryd.prog w = .ok (.string (txt [111])) w := by kernel_rfl
theorem conv33 (w : World) : (convert 5 9 (.int .u8 33)).run Tryd.prog w = .ok (.string (txt [33])) w := by kernel_rfl
set_option maxHeartbeats 4000000 in
set_option maxRecDepth 100000 in
theorem piece_any (B0 B b : Nat) (T : List UInt8) (col n : Nat) (c : UInt8) (cI : Int) (w : World) (h : IsWr B b T col w) (hn : n < 9223372036854775808) (hcv : ∀ w, (convert 5 9 (.int .u8 cI)).run Tryd.prog w = .ok (.string (txt [c])) w)
    (hcol : col ≤ 70) (hlen : T.length ≤ 10000000) (hBw : B ≤ w.heap.size) (htab : Tab B0 w) (hB0 : B0 ≤ w.heap.size) :
    Calls Tryd.prog 29 #[.pointer (some ⟨b, 0, none⟩), .int .i64 n, .int .u8 cI] w fun e w' => e = .returned (.tuple #[]) ∧ IsWr B b (layF (T, col) (tok n c)).1 ((layF (T, col) (tok n c)).2 : Nat) w' ∧ Below B w w' := by
  rcases Nat.eq_zero_or_pos n with rfl | hn0
  · clear hcv
    go_enter Tryd.func29, Tryd.ntmps29
    go_wp2_with fail
    (try simp only [Exit.inBlock, Exit.then])
    refine bodyPost_ret (results_none rfl _ _ _) rfl ?_
    exact ⟨rfl, h, Below.refl _ _⟩
  · have hne : ((n : Int) == 0) = false := by simp; omega
    have hne2 : (n == 0) = false := by simp; omega
    have htk : tok n c = [tokT n c] := by rw [tok, if_neg (by omega)]
    rw [htk, layF_one]
    have hSl := tokT_len c (show n < 18446744073709551616 by omega)
    obtain ⟨S, hS⟩ : ∃ S, S = tokT n c := ⟨_, rfl⟩
    rw [← hS] at hSl ⊢
    have hXs := txt_size S
    obtain ⟨X, hX⟩ : ∃ X, X = txt S := ⟨_, rfl⟩
    rw [← hX] at hXs
    obtain ⟨L, hL⟩ : ∃ L, L = S.length := ⟨_, rfl⟩
    rw [← hL] at hXs hSl
    have HWS := Lib.hid (fun (T : List UInt8) (k : Int) (w : World) (h : IsWr B b T k w) (h1 : T.length ≤ 10000001) (h2 : B ≤ w.heap.size) => writeStringW B b T S k w h (by omega) h2)
    rw [← hX, ← hL] at HWS
    have HWB := Lib.hid (fun (w : World) (h : IsWr B b T col w) (h2 : B ≤ w.heap.size) => writeByteW B b T col 10 10 rfl w h (by omega) h2)
    have HLEN := Lib.hid hL
    have hpos1 : decide ((n : Int) > 0) = true := decide_eq_true (by omega)
    have hB : B ≤ b := h.base
    by_cases hn1 : n = 1
    · subst hn1
      have hS1 : S = [c] := by rw [hS]; rfl
      have hcx := fun w => hcv w
      rw [← hS1, ← hX] at hcx
      obtain ⟨p, v, hbk⟩ := h.blk
      have d0 : w.cell? ⟨b, 2, none⟩ = some (.int .i64 col) := Joins.cell_of_block hbk 2
      have h0 := Lib.hid h
      clear hcv hS hX hL htk hbk hS1 h
      by_cases hov : 70 < col + L
      · have e1 : decide (70 < (col : Int) + (L : Int)) = true := decide_eq_true (by omega)
        have e2 : decide (70 < col + L) = true := decide_eq_true hov
        go_enter Tryd.func29, Tryd.ntmps29
        go_wp2_with fail
        refine (HWB.out _ h0.out hBw).mono ?_
        rintro e w1 ⟨rfl, h1, hb1⟩
        obtain ⟨p1, v1, hbk1⟩ := h1.blk
        have d1 : w1.cell? ⟨b, 2, none⟩ = some (.int .i64 col) := Joins.cell_of_block hbk1 2
        have f1 : w1.frozen? ⟨b, 2, none⟩ = false := Joins.unfrozen_of_block hbk1 2
        have h2 := Lib.hid (h1.col 0)
        have hb2 := Lib.hid (hb1.setCell (p := ⟨b, 2, none⟩) hB (.int .i64 0))
        have hz1 := hb1.size
        clear h1 hbk1
        go_wp2_with fail
        refine (HWS.out _ _ _ h2.out (by simp; omega) (by simp; omega)).mono ?_
        rintro e w3 ⟨rfl, h3, hb3⟩
        obtain ⟨p3, v3, hbk3⟩ := h3.blk
        have d3 : w3.cell? ⟨b, 2, none⟩ = some (.int .i64 0) := Joins.cell_of_block hbk3 2
        have f3 : w3.frozen? ⟨b, 2, none⟩ = false := Joins.unfrozen_of_block hbk3 2
        have h4 := Lib.hid (h3.col (L : Int))
        have hb4 := Lib.hid ((hb2.out.trans hb3).setCell (p := ⟨b, 2, none⟩) hB (.int .i64 (L : Int)))
        clear h3 hbk3
        go_wp2_with fail
        go_end0
        refine ⟨rfl, ?_, hb4.out⟩
        have e : layP (T, col) S = (T ++ [10] ++ S, L) := by rw [layP, if_pos (by simp only; rw [← HLEN.out]; exact hov), HLEN.out]
        rw [e]
        exact h4.out
      · have e1 : decide (70 < (col : Int) + (L : Int)) = false := decide_eq_false (by omega)
        have e2 : decide (70 < col + L) = false := decide_eq_false hov
        go_enter Tryd.func29, Tryd.ntmps29
        go_wp2_with fail
        refine (HWS.out _ _ _ h0.out (by omega) hBw).mono ?_
        rintro e w3 ⟨rfl, h3, hb3⟩
        obtain ⟨p3, v3, hbk3⟩ := h3.blk
        have d3 : w3.cell? ⟨b, 2, none⟩ = some (.int .i64 col) := Joins.cell_of_block hbk3 2
        have f3 : w3.frozen? ⟨b, 2, none⟩ = false := Joins.unfrozen_of_block hbk3 2
        have h4 := Lib.hid (h3.col ((col : Int) + (L : Int)))
        have hb4 := Lib.hid (hb3.setCell (p := ⟨b, 2, none⟩) hB (.int .i64 ((col : Int) + (L : Int))))
        clear h3 hbk3
        go_wp2_with fail
        go_end0
        refine ⟨rfl, ?_, hb4.out⟩
        have e : layP (T, col) S = (T ++ S, col + L) := by rw [layP, if_neg (by simp only; rw [← HLEN.out]; exact hov), HLEN.out]
        rw [e]
        exact h4.out
    · have hadd : txt (Lib.decDigits n) ++ txt [c] = X := by rw [hX, hS, tokT, if_pos (by omega), txt_add]
      have hg1 : decide ((n : Int) > 1) = true := decide_eq_true (by omega)
      have hg2 : decide (1 < (n : Int)) = true := decide_eq_true (by omega)
      have hg3 : decide (1 < n) = true := decide_eq_true (by omega)
      have HI := Lib.hid (itoa_any B0 n w hn htab)
      have hd1 := dec_len (show n < 18446744073709551616 by omega)
      obtain ⟨Y, hY⟩ : ∃ Y, Y = txt (Lib.decDigits n) := ⟨_, rfl⟩
      obtain ⟨Z, hZ⟩ : ∃ Z, Z = txt [c] := ⟨_, rfl⟩
      have hYs : Y.size ≤ 64 := by rw [hY, txt_size]; exact hd1
      have hZs : Z.size = 1 := by rw [hZ, txt_size]; rfl
      rw [← hY] at HI hadd
      rw [← hZ] at hadd hcv
      have h0 := Lib.hid h
      clear hS hX hL htk h hd1 hY hZ
      by_cases hov : 70 < col + L
      · have e1 : decide (70 < (col : Int) + (L : Int)) = true := decide_eq_true (by omega)
        have e2 : decide (70 < col + L) = true := decide_eq_true hov
        go_enter Tryd.func29, Tryd.ntmps29
        go_wp2_with fail
        refine HI.out.mono ?_
        rintro e wi ⟨rfl, hbi⟩
        have hi' := Lib.hid (h0.out.below hbi)
        obtain ⟨p, v, hbk⟩ := hi'.out.blk
        have d0 : wi.cell? ⟨b, 2, none⟩ = some (.int .i64 col) := Joins.cell_of_block hbk 2
        have hzi := hbi.size
        have hbi' := Lib.hid (hbi.mono hBw)
        clear hbk hbi
        go_wp2_with fail
        refine (HWB.out _ hi'.out (by omega)).mono ?_
        rintro e w1 ⟨rfl, h1, hb1⟩
        obtain ⟨p1, v1, hbk1⟩ := h1.blk
        have d1 : w1.cell? ⟨b, 2, none⟩ = some (.int .i64 col) := Joins.cell_of_block hbk1 2
        have f1 : w1.frozen? ⟨b, 2, none⟩ = false := Joins.unfrozen_of_block hbk1 2
        have h2 := Lib.hid (h1.col 0)
        have hb2 := Lib.hid ((hbi'.out.trans hb1).setCell (p := ⟨b, 2, none⟩) hB (.int .i64 0))
        have hz1 := hb1.size
        clear h1 hbk1
        go_wp2_with fail
        refine (HWS.out _ _ _ h2.out (by simp; omega) (by simp; omega)).mono ?_
        rintro e w3 ⟨rfl, h3, hb3⟩
        obtain ⟨p3, v3, hbk3⟩ := h3.blk
        have d3 : w3.cell? ⟨b, 2, none⟩ = some (.int .i64 0) := Joins.cell_of_block hbk3 2
        have f3 : w3.frozen? ⟨b, 2, none⟩ = false := Joins.unfrozen_of_block hbk3 2
        have h4 := Lib.hid (h3.col (L : Int))
        have hb4 := Lib.hid ((hb2.out.trans hb3).setCell (p := ⟨b, 2, none⟩) hB (.int .i64 (L : Int)))
        clear h3 hbk3
        go_wp2_with fail
        go_end0
        refine ⟨rfl, ?_, hb4.out⟩
        have e : layP (T, col) S = (T ++ [10] ++ S, L) := by rw [layP, if_pos (by simp only; rw [← HLEN.out]; exact hov), HLEN.out]
        rw [e]
        exact h4.out
      · have e1 : decide (70 < (col : Int) + (L : Int)) = false := decide_eq_false (by omega)
        have e2 : decide (70 < col + L) = false := decide_eq_false hov
        go_enter Tryd.func29, Tryd.ntmps29
        go_wp2_with fail
        refine HI.out.mono ?_
        rintro e wi ⟨rfl, hbi⟩
        have hi' := Lib.hid (h0.out.below hbi)
        obtain ⟨p, v, hbk⟩ := hi'.out.blk
        have d0 : wi.cell? ⟨b, 2, none⟩ = some (.int .i64 col) := Joins.cell_of_block hbk 2
        have hzi := hbi.size
        have hbi' := Lib.hid (hbi.mono hBw)
        clear hbk hbi
        go_wp2_with fail
        refine (HWS.out _ _ _ hi'.out (by omega) (by omega)).mono ?_
        rintro e w3 ⟨rfl, h3, hb3⟩
        obtain ⟨p3, v3, hbk3⟩ := h3.blk
        have d3 : w3.cell? ⟨b, 2, none⟩ = some (.int .i64 col) := Joins.cell_of_block hbk3 2
        have f3 : w3.frozen? ⟨b, 2, none⟩ = false := Joins.unfrozen_of_block hbk3 2
        have h4 := Lib.hid (h3.col ((col : Int) + (L : Int)))
        have hb4 := Lib.hid ((hbi'.out.trans hb3).setCell (p := ⟨b, 2, none⟩) hB (.int .i64 ((col : Int) + (L : Int))))
        clear h3 hbk3
        go_wp2_with fail
        go_end0
        refine ⟨rfl, ?_, hb4.out⟩
        have e : layP (T, col) S = (T ++ S, col + L) := by rw [layP, if_neg (by simp only; rw [← HLEN.out]; exact hov), HLEN.out]
        rw [e]
        exact h4.out
end Go.Proofs.YtdmamecfmfhlmaaDoor
