/-
  quad.Put.
-/
import Derived.Test.YtdmamecfmfhlmaaZQuadPutsQPut
import Derived.Test.YtdmamecfmfhlmaaZQuadPuts37
namespace Go.Proofs.Ytdmamecfmfhlmaa
set_option maxRecDepth 100000
open Go.RowKit

section
variable {b t : Nat} {S : ArS} {F : Nat → Prop} {n : Nat} {T : Tree} {id x y : Int} {al : Bool} {w : World}
set_option maxHeartbeats 4000000 in
set_option maxRecDepth 100000 in
theorem qput_out (h : IsAr b S w F) (wf : Wf S.L) (ht : t < 64) (hd : Den S.L t (n + 1) T id) (hn : n + 1 ≤ 44) (hx64 : I64 x ∧ I64 y) (hin : ¬ (-((2 ^ n : Nat) : Int) ≤ x ∧ x < ((2 ^ n : Nat) : Int) ∧ -((2 ^ n : Nat) : Int) ≤ y ∧ y < ((2 ^ n : Nat) : Int))) :
    Calls Try.prog 18 #[.pointer (some ⟨b, 0, none⟩), .int .i64 t, .int .i64 id, .agg #[.int .i64 x, .int .i64 y], .bool al] w fun e w' => e = .returned (.tuple #[.int .i64 0, .int .i64 3]) ∧ Below w.heap.size w w' := by
  obtain ⟨X0, hX0⟩ : ∃ X, X = w.alloc (.cells #[.int .i64 x, .int .i64 y] 39 (0, 0)) := ⟨_, rfl⟩
  have hb0 : Below w.heap.size w X0 := by rw [hX0]; exact (Below.refl _ _).alloc (Nat.le_refl _) _
  have hc0 : X0.heap[w.heap.size]? = some (.cells #[.int .i64 x, .int .i64 y] 39 (0, 0)) := by rw [hX0]; exact blk_last w _ rfl
  obtain ⟨hh, hno, hX⟩ := hand_new (t := t) (h.below hb0)
  have hbX : Below X0.heap.size X0 (X0.alloc (.cells #[.pointer (some ⟨b, 0, none⟩), .int .i64 t, .int .i64 0] 78 (0, 0))) := (Below.refl _ _).alloc (Nat.le_refl _) _
  have hLV := hlevel_any X0.heap.size b t 0 78 none S F id _ hX hh hno
  rw [if_pos rfl, if_pos rfl, hd.levelA h.ok ht] at hLV
  have hst := HState.refl hX hh
  obtain ⟨X, hXe⟩ : ∃ X, X = X0.alloc (.cells #[.pointer (some ⟨b, 0, none⟩), .int .i64 t, .int .i64 0] 78 (0, 0)) := ⟨_, rfl⟩
  rw [← hXe] at hbX hLV hst hX hh
  have hcX := (hbX.block _ (lt_of_block hc0)).trans hc0
  have hwX : w.heap.size < X0.heap.size := lt_of_block hc0
  have hXX : X0.heap.size < X.heap.size := hh.lt
  obtain ⟨lv, hlv⟩ : ∃ lv : Nat, lv = n + 1 := ⟨_, rfl⟩
  have hlI : ((n + 1 : Nat) : Int) = (lv : Int) := by omega
  rw [hlI] at hLV
  have hlz : ((lv : Int) == 0) = false := by simp; omega
  have hlz2 : (lv == 0) = false := by simp; omega
  obtain ⟨H, hH⟩ : ∃ H : Nat, H = 2 ^ n := ⟨_, rfl⟩
  have hHb : H ≤ 8796093022208 := by
    have : 2 ^ n ≤ 2 ^ 43 := Nat.pow_le_pow_right (by omega) (by omega)
    omega
  have hHI : (2 : Int) ^ (n + 1) = 2 * (H : Int) := by
    rw [Int.pow_succ, show (2 : Int) ^ n = (H : Int) by rw [hH, Int.natCast_pow]; rfl]; omega
  rw [← hH] at hin
  have HHF := Lib.hid (show ∀ W : World, Calls Try.prog 45 #[.int .i64 (lv : Int)] W fun e w' => e = .returned (.int .i64 (H : Int)) ∧ w' = W from fun W => by
    have hf := half_any lv (by omega) (by omega) W
    rw [hlv] at hf
    rw [hlv, hH]; exact hf)
  have hx1 : -9223372036854775808 ≤ x ∧ x ≤ 9223372036854775807 := by have := hx64.1; unfold I64 at this; omega
  have hy1 : -9223372036854775808 ≤ y ∧ y ≤ 9223372036854775807 := by have := hx64.2; unfold I64 at this; omega
  have HX0 := Lib.hid hX0
  have HXE := Lib.hid hXe
  have HLV := Lib.hid hLV
  have HB := Lib.hid (hb0.trans (hbX.mono (by omega)))
  have HCX := Lib.hid hcX
  have HS0 := Lib.hid hst
  have HNO := Lib.hid hno
  have HHI := Lib.hid hHI
  have HWF := Lib.hid wf
  have HD := Lib.hid hd
  have HLE := Lib.hid hlv
  have HFL := Lib.hid h.lt
  have HHE := Lib.hid hH
  clear h wf hd hX0 hb0 hc0 hh hno hX hbX hLV hst hXe hcX hlv hlI hH hHI hx64
  go_enter Try.func18, Try.ntmps18
  go_upto_region 1 with fail
  rw [← HX0.out]
  go_upto_region 2 with fail
  rw [← HXE.out]
  go_wp2_with fail
  with_reducible refine HLV.out.mono ?_
  rintro e w1 ⟨rfl, hh1, hk1⟩
  have c2 := hh1.c2
  have hc1 := (hk1.block w.heap.size (by omega) (by omega)).trans HCX.out
  have k0 := Joins.cell_of_block hc1 0
  have k1 := Joins.cell_of_block hc1 1
  simp at k0 k1
  have HS1 := Lib.hid (HS0.out.trans (⟨HS0.out.1.keep hk1 (fun i hi e => HNO.out (by rw [← e]; exact hi)), hh1, fun i hi => .inl hi, hk1.mono fun i _ e => .inr e⟩ : HState X F X0.heap.size b t 78 none S 0 F w1))
  have HB1 := Lib.hid (show Below w.heap.size w w1 from HB.out.trans (hk1.toBelow (B := w.heap.size) (fun i e => by omega) HB.out.size))
  have hsz1 := hk1.size
  clear hh1 hk1 hc1
  by_cases hxl : x < -(H : Int)
  · skip
    have d0 : decide (x < -(H : Int)) = true := decide_eq_true (by omega)
    go_wp2_with fail
    with_reducible refine (HHF.out _).mono ?_
    rintro e w2 ⟨rfl, rfl⟩
    go_wp2_with fail
    go_ret2
    exact ⟨rfl, HB1.out⟩
  · by_cases hxh : (H : Int) ≤ x
    · skip
      have d0 : decide (x < -(H : Int)) = false := decide_eq_false (by omega)
      have d1 : decide (x ≥ (H : Int)) = true := decide_eq_true (by omega)
      have d1' : decide ((H : Int) ≤ x) = true := decide_eq_true (by omega)
      go_wp2_with fail
      with_reducible refine (HHF.out _).mono ?_
      rintro e w2 ⟨rfl, rfl⟩
      go_wp2_with fail
      go_ret2
      exact ⟨rfl, HB1.out⟩
    · by_cases hyl : y < -(H : Int)
      · skip
        have d0 : decide (x < -(H : Int)) = false := decide_eq_false (by omega)
        have d1 : decide (x ≥ (H : Int)) = false := decide_eq_false (by omega)
        have d1' : decide ((H : Int) ≤ x) = false := decide_eq_false (by omega)
        have d2 : decide (y < -(H : Int)) = true := decide_eq_true (by omega)
        go_wp2_with fail
        with_reducible refine (HHF.out _).mono ?_
        rintro e w2 ⟨rfl, rfl⟩
        go_wp2_with fail
        go_ret2
        exact ⟨rfl, HB1.out⟩
      · skip
        have d0 : decide (x < -(H : Int)) = false := decide_eq_false (by omega)
        have d1 : decide (x ≥ (H : Int)) = false := decide_eq_false (by omega)
        have d1' : decide ((H : Int) ≤ x) = false := decide_eq_false (by omega)
        have d2 : decide (y < -(H : Int)) = false := decide_eq_false (by omega)
        have d3 : decide (y ≥ (H : Int)) = true := decide_eq_true (by omega)
        have d3' : decide ((H : Int) ≤ y) = true := decide_eq_true (by omega)
        go_wp2_with fail
        with_reducible refine (HHF.out _).mono ?_
        rintro e w2 ⟨rfl, rfl⟩
        go_wp2_with fail
        go_ret2
        exact ⟨rfl, HB1.out⟩
set_option maxHeartbeats 4000000 in
set_option maxRecDepth 100000 in
theorem qput_in (h : IsAr b S w F) (wf : Wf S.L) (ht : t < 64) (hd : Den S.L t (n + 1) T id) (hn : n + 1 ≤ 44) (hx64 : I64 x ∧ I64 y) (hin : -((2 ^ n : Nat) : Int) ≤ x ∧ x < ((2 ^ n : Nat) : Int) ∧ -((2 ^ n : Nat) : Int) ≤ y ∧ y < ((2 ^ n : Nat) : Int)) :
    Calls Try.prog 18 #[.pointer (some ⟨b, 0, none⟩), .int .i64 t, .int .i64 id, .agg #[.int .i64 x, .int .i64 y], .bool al] w (Gets w F b t S (n + 1) (n + 1) (putT (n + 1) (x + ((2 ^ n : Nat) : Int)) (y + ((2 ^ n : Nat) : Int)) al T)) := by
  obtain ⟨X0, hX0⟩ : ∃ X, X = w.alloc (.cells #[.int .i64 x, .int .i64 y] 39 (0, 0)) := ⟨_, rfl⟩
  have hb0 : Below w.heap.size w X0 := by rw [hX0]; exact (Below.refl _ _).alloc (Nat.le_refl _) _
  have hc0 : X0.heap[w.heap.size]? = some (.cells #[.int .i64 x, .int .i64 y] 39 (0, 0)) := by rw [hX0]; exact blk_last w _ rfl
  obtain ⟨hh, hno, hX⟩ := hand_new (t := t) (h.below hb0)
  have hbX : Below X0.heap.size X0 (X0.alloc (.cells #[.pointer (some ⟨b, 0, none⟩), .int .i64 t, .int .i64 0] 78 (0, 0))) := (Below.refl _ _).alloc (Nat.le_refl _) _
  have hLV := hlevel_any X0.heap.size b t 0 78 none S F id _ hX hh hno
  rw [if_pos rfl, if_pos rfl, hd.levelA h.ok ht] at hLV
  have hst := HState.refl hX hh
  obtain ⟨X, hXe⟩ : ∃ X, X = X0.alloc (.cells #[.pointer (some ⟨b, 0, none⟩), .int .i64 t, .int .i64 0] 78 (0, 0)) := ⟨_, rfl⟩
  rw [← hXe] at hbX hLV hst hX hh
  have hcX := (hbX.block _ (lt_of_block hc0)).trans hc0
  have hwX : w.heap.size < X0.heap.size := lt_of_block hc0
  have hXX : X0.heap.size < X.heap.size := hh.lt
  obtain ⟨lv, hlv⟩ : ∃ lv : Nat, lv = n + 1 := ⟨_, rfl⟩
  have hlI : ((n + 1 : Nat) : Int) = (lv : Int) := by omega
  rw [hlI] at hLV
  have hlz : ((lv : Int) == 0) = false := by simp; omega
  have hlz2 : (lv == 0) = false := by simp; omega
  obtain ⟨H, hH⟩ : ∃ H : Nat, H = 2 ^ n := ⟨_, rfl⟩
  have hHb : H ≤ 8796093022208 := by
    have : 2 ^ n ≤ 2 ^ 43 := Nat.pow_le_pow_right (by omega) (by omega)
    omega
  have hHI : (2 : Int) ^ (n + 1) = 2 * (H : Int) := by
    rw [Int.pow_succ, show (2 : Int) ^ n = (H : Int) by rw [hH, Int.natCast_pow]; rfl]; omega
  rw [← hH] at hin
  have HHF := Lib.hid (show ∀ W : World, Calls Try.prog 45 #[.int .i64 (lv : Int)] W fun e w' => e = .returned (.int .i64 (H : Int)) ∧ w' = W from fun W => by
    have hf := half_any lv (by omega) (by omega) W
    rw [hlv] at hf
    rw [hlv, hH]; exact hf)
  have hx1 : -9223372036854775808 ≤ x ∧ x ≤ 9223372036854775807 := by have := hx64.1; unfold I64 at this; omega
  have hy1 : -9223372036854775808 ≤ y ∧ y ≤ 9223372036854775807 := by have := hx64.2; unfold I64 at this; omega
  have HX0 := Lib.hid hX0
  have HXE := Lib.hid hXe
  have HLV := Lib.hid hLV
  have HB := Lib.hid (hb0.trans (hbX.mono (by omega)))
  have HCX := Lib.hid hcX
  have HS0 := Lib.hid hst
  have HNO := Lib.hid hno
  have HHI := Lib.hid hHI
  have HWF := Lib.hid wf
  have HD := Lib.hid hd
  have HLE := Lib.hid hlv
  have HFL := Lib.hid h.lt
  have HHE := Lib.hid hH
  clear h wf hd hX0 hb0 hc0 hh hno hX hbX hLV hst hXe hcX hlv hlI hH hHI hx64
  go_enter Try.func18, Try.ntmps18
  go_upto_region 1 with fail
  rw [← HX0.out]
  go_upto_region 2 with fail
  rw [← HXE.out]
  go_wp2_with fail
  with_reducible refine HLV.out.mono ?_
  rintro e w1 ⟨rfl, hh1, hk1⟩
  have c2 := hh1.c2
  have hc1 := (hk1.block w.heap.size (by omega) (by omega)).trans HCX.out
  have k0 := Joins.cell_of_block hc1 0
  have k1 := Joins.cell_of_block hc1 1
  simp at k0 k1
  have HS1 := Lib.hid (HS0.out.trans (⟨HS0.out.1.keep hk1 (fun i hi e => HNO.out (by rw [← e]; exact hi)), hh1, fun i hi => .inl hi, hk1.mono fun i _ e => .inr e⟩ : HState X F X0.heap.size b t 78 none S 0 F w1))
  have HB1 := Lib.hid (show Below w.heap.size w w1 from HB.out.trans (hk1.toBelow (B := w.heap.size) (fun i e => by omega) HB.out.size))
  have hsz1 := hk1.size
  clear hh1 hk1 hc1
  have d0 : decide (x < -(H : Int)) = false := decide_eq_false (by omega)
  have d1 : decide (x ≥ (H : Int)) = false := decide_eq_false (by omega)
  have d1' : decide ((H : Int) ≤ x) = false := decide_eq_false (by omega)
  have d2 : decide (y < -(H : Int)) = false := decide_eq_false (by omega)
  have d3 : decide (y ≥ (H : Int)) = false := decide_eq_false (by omega)
  have d3' : decide ((H : Int) ≤ y) = false := decide_eq_false (by omega)
  have HPU := Lib.hid (hput_any (n + 1) hn X0.heap.size b t 78 none S F T id (x + (H : Int)) (y + (H : Int)) al w1 HS1.out.1 HWF.out HS1.out.2.1 HNO.out ht HD.out (by omega) (by rw [HHI.out]; omega) (by omega) (by rw [HHI.out]; omega))
  rw [← HLE.out] at HPU
  go_wp2_with fail
  with_reducible refine (HHF.out _).mono ?_
  rintro e w2 ⟨rfl, rfl⟩
  go_wp2_with fail
  with_reducible refine HPU.out.mono ?_
  rintro e w3 ⟨S3, b3, v, F3, rfl, ⟨r, rfl, hr, hres, hden⟩, g1, g2, g3, g4⟩
  have hst3 := HS1.out.trans ⟨g1, g2, g3, g4⟩
  have HDN := Lib.hid (done_any X0.heap.size b t b3 78 none r w3 g2)
  have HGT := Lib.hid (fun (w4 : World) (h4 : Below w3.heap.size w3 w4) => (by
    have hst4 := hst3.below h4
    refine ⟨_, b3, S3, F3, rfl, ?_, hres, fun e => by rw [if_pos e]; exact hden e, fun e => by rw [if_neg e], hst4.1, fun i hi => ?_, ?_⟩
    · split
      · exact hr
      · unfold I64; omega
    · rcases hst4.2.2.1 i hi with e | e
      · exact .inl e
      · exact .inr (Nat.le_trans HB.out.size e)
    · exact (Keeps.of_below HB.out).trans hst4.2.2.2 fun i hi e => by
        rcases e with e | e
        · exact e
        · omega : Gets w F b t S lv lv (putT lv (x + (H : Int)) (y + (H : Int)) al T) (.returned (.tuple #[.int .i64 (if b3 = 0 then r else 0), .int .i64 b3])) w4))
  clear hr hres hden g1 g2 g3 g4 hst3
  go_wp2_with fail
  with_reducible refine HDN.out.mono ?_
  rintro e w4 ⟨rfl, h4⟩
  have HGG := Lib.hid (HGT.out w4 h4)
  obtain ⟨r2, hr2⟩ : ∃ r2, r2 = if b3 = 0 then r else 0 := ⟨_, rfl⟩
  rw [← hr2] at HGG
  rw [← hr2]
  clear hr2 h4
  go_wp2_with fail
  go_ret2
  have hgg := HGG.out
  rw [HLE.out, HHE.out] at hgg
  exact hgg
end
end Go.Proofs.Ytdmamecfmfhlmaa
