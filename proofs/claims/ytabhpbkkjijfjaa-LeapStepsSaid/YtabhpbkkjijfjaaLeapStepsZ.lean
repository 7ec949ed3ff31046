/-
  For all rules, lists of cells (of which the first forty count, near 0) and numbers (counted round below 40, if they are such), leap.Steps answers a root of just the cells that the document's plain steps make, or the error; no condition.
-/
import Derived.Test.YtabhpbkkjijfjaaZLeapSteps47
import Derived.Test.YtabhpbkkjijfjaaZLeapStepsLResult
import Derived.Test.YtabhpbkkjijfjaaZLeapStepsPuts
namespace Go.Proofs.Ytabhpbkkjijfjaa
set_option maxRecDepth 100000
open Go.RowKit

theorem ran_lists {w w' : World} {b l : Int} {zs : List (Int × Int)} {n : Int} {e : Ending} {r : List (Int × Int)} {er : Int} (hr : (r, er) = ranF b l zs n) (h : Ran w b l zs n e w') :
    ∃ a c, e = .returned (.tuple #[.slice a r.length c, .int .i64 er]) ∧ Below w.heap.size w w' ∧ Tight w.heap.size w' (.slice a r.length c) r := by
  obtain ⟨v, he, hb, ht⟩ := h
  rw [← hr] at he ht
  obtain ⟨a, c, rfl, _, _⟩ := ht.form
  exact ⟨a, c, he, hb, ht⟩
set_option maxHeartbeats 8000000 in
set_option maxRecDepth 100000 in
theorem law_leapSteps (rb rl : Int) (zs : CellL) (j : Int) (a : Option Addr) (cap : Nat) (w : World) (hs : Sl w 2 16 a zs.length cap (zs.flatMap encCell)) :
    Calls Try.prog 3 #[.agg #[.int .i64 rb, .int .i64 rl], .slice a zs.length cap, .int .i64 j] w fun e w' => e = .returned (.bool true) ∧ Below w.heap.size w w' := by
  obtain ⟨X, hX⟩ : ∃ X, X = w.alloc (.cells #[.int .i64 rb, .int .i64 rl] 23 (0, 0)) := ⟨_, rfl⟩
  have hbX : Below w.heap.size w X := by rw [hX]; exact (Below.refl _ _).alloc (Nat.le_refl _) _
  have hrx : X.heap[w.heap.size]? = some (.cells #[.int .i64 rb, .int .i64 rl] 23 (0, 0)) := by rw [hX]; exact blk_last w _ rfl
  obtain ⟨rp, hrp⟩ : ∃ r, r = w.heap.size := ⟨_, rfl⟩
  have hFEW := few_any zs a cap X (hs.below (by omega) hbX)
  obtain ⟨ys, hys⟩ : ∃ ys, ys = fewF zs := ⟨_, rfl⟩
  have hl40 : ys.length ≤ 40 := by rw [hys]; exact fewF_len zs
  have hnear : ∀ c ∈ ys, -20 < c.1 ∧ c.1 < 20 ∧ -20 < c.2 ∧ c.2 < 20 := fun c hc => fewF_near (by rw [hys] at hc; exact hc)
  rw [← hys] at hFEW
  obtain ⟨yn, hyn⟩ : ∃ yn, yn = ys.length := ⟨_, rfl⟩
  have HFEW := Lib.hid hFEW
  have HX := Lib.hid hX
  have HBX := Lib.hid hbX
  have HRX := Lib.hid hrx
  have HRP := Lib.hid hrp
  have HYN := Lib.hid hyn
  have HL40 := Lib.hid hl40
  have HNEAR := Lib.hid hnear
  rw [← hrp] at HRX
  have HK := Lib.hid (show ∀ W, Below X.heap.size X W → W.heap[rp]? = some (.cells #[.int .i64 rb, .int .i64 rl] 23 (0, 0)) from fun W h => (h.block _ (lt_of_block HRX.out)).trans HRX.out)
  have HGD := Lib.hid (fun W => refGood_any rb rl W)
  obtain ⟨zn, hzn⟩ : ∃ zn, zn = zs.length := ⟨_, rfl⟩
  rw [← hzn] at HFEW ⊢
  clear hFEW hX hbX hrx hrp hyn hl40 hnear hys hs hzn
  go_enter Try.func3, Try.ntmps3
  go_upto_region 1 with fail
  rw [← HX.out, ← HRP.out]
  go_wp2_with fail
  with_reducible refine HFEW.out.mono ?_
  rintro e w1 ⟨v, rfl, hb1, hown⟩
  obtain ⟨a1, c1, rfl⟩ := own_form hown
  have hsl : Sl w1 2 16 a1 ys.length c1 (ys.flatMap encCell) := sl_own_up (bytes := 16) hown (by omega) (by have := HL40.out; omega) (Below.refl _ _)
  have HSL := Lib.hid hsl
  rw [← HYN.out] at HSL ⊢
  have HB1 := Lib.hid hb1
  clear hown hsl hb1
  obtain ⟨k, hkk⟩ : ∃ k : Nat, k = (j.tmod 40).toNat := ⟨_, rfl⟩
  have HKK := Lib.hid (show (0 ≤ j → j.tmod 40 = (k : Int)) ∧ k < 40 from by
    have hb := Int.lt_tmod_of_pos j (show (0 : Int) < 40 by omega)
    have hb2 := Int.tmod_lt_of_pos j (show (0 : Int) < 40 by omega)
    refine ⟨fun h => ?_, by omega⟩
    have := Int.tmod_nonneg 40 h
    omega)
  have hcase : (0 ≤ j ∧ j ≤ 1073741824) ∨ j < 0 ∨ (0 ≤ j ∧ 1073741824 < j) := by omega
  clear hkk
  rcases hcase with ⟨h0, h1⟩ | h0 | ⟨h0, h1⟩
  · by_cases hg : goodF rb rl = false
    · skip
      have HG := Lib.hid hg
      clear hg
      have t1 : decide (j ≥ 0) = true := decide_eq_true h0
      have t2 : decide (j ≤ 1073741824) = true := decide_eq_true h1
      have t3 : decide (0 ≤ j) = true := decide_eq_true h0
      have q0 : j.tmod 40 = (k : Int) := HKK.out.1 h0
      have q1 : IntKind.i64.wrap (k : Int) = (k : Int) := by rw [IntKind.wrap_i64]; have := HKK.out.2; omega
      have HM := Lib.hid (madeFew_any (U := fun _ => True) ys a1 c1 w1 (by have := HSL.out; rwa [HYN.out] at this) HL40.out HNEAR.out (fun _ _ _ _ _ _ _ => trivial))
      rw [← HYN.out] at HM
      go_upto_region 4 with fail
      clear t1 t3
      try clear t2
      try clear q0 q1
      go_wp2_with fail
      with_reducible refine HM.out.mono ?_
      rintro e w2 ⟨b, lev, r, S, F, T, rfl, hr, hI, hF, hB2, hwf, hnote, hal, hden, hsh, hl2, hl6⟩
      have HI2 := Lib.hid hI
      have HS12 := Lib.hid hB2.size
      have HW12 := Lib.hid hB2
      have HF2 := Lib.hid hF
      have HB2 := Lib.hid (show Below X.heap.size X w2 from HB1.out.trans (hB2.mono HB1.out.size))
      have hrl := HK.out _ HB2.out
      have l1 : w2.cell? ⟨rp, 0, none⟩ = some (.int .i64 rb) := Joins.cell_of_block hrl 0
      have l2 : w2.cell? ⟨rp, 1, none⟩ = some (.int .i64 rl) := Joins.cell_of_block hrl 1
      have HLE := Lib.hid (steps_rule b 3 rb rl r (k : Int) w2 (by have := HKK.out.2; omega) HG.out)
      rw [show ((3 : Nat) : Int) = (3 : Int) from rfl] at HLE
      clear hr hI hF hB2 hwf hnote hal hden hsh hl2 hl6 hrl
      go_wp2_with fail
      with_reducible refine HLE.out.mono ?_
      rintro e w3 ⟨rfl, hb3⟩
      have HB3 := Lib.hid (HB2.out.trans (hb3.mono HB2.out.size))
      have hrl3 := HK.out _ HB3.out
      have m1 : w3.cell? ⟨rp, 0, none⟩ = some (.int .i64 rb) := Joins.cell_of_block hrl3 0
      have m2 : w3.cell? ⟨rp, 1, none⟩ = some (.int .i64 rl) := Joins.cell_of_block hrl3 1
      have HG3 := Lib.hid (HGD.out w3)
      rw [HG.out] at HG3
      have u1 : decide ((k : Int) < 0) = false := decide_eq_false (by omega)
      have u2 : decide ((k : Int) > 1073741824) = false := decide_eq_false (by have := HKK.out.2; omega)
      have u3 : decide (1073741824 < k) = false := decide_eq_false (by have := HKK.out.2; omega)
      have u4 : decide ((1073741824 : Int) < (k : Int)) = false := decide_eq_false (by have := HKK.out.2; omega)
      clear hb3 hrl3
      go_wp2_with fail
      with_reducible refine HG3.out.mono ?_
      rintro e w4 ⟨rfl, hb4⟩
      have HB4 := Lib.hid (show Below w.heap.size w w4 from HBX.out.trans ((HB3.out.trans (hb4.mono HB3.out.size)).mono HBX.out.size))
      clear hb4
      go_wp2_with fail
      go_ret
      exact ⟨rfl, HB4.out⟩
    · skip
      have hg2 : goodF rb rl = true := by simpa using hg
      have HG := Lib.hid hg2
      clear hg hg2
      have t1 : decide (j ≥ 0) = true := decide_eq_true h0
      have t2 : decide (j ≤ 1073741824) = true := decide_eq_true h1
      have t3 : decide (0 ≤ j) = true := decide_eq_true h0
      have q0 : j.tmod 40 = (k : Int) := HKK.out.1 h0
      have q1 : IntKind.i64.wrap (k : Int) = (k : Int) := by rw [IntKind.wrap_i64]; have := HKK.out.2; omega
      have HM := Lib.hid (madeFew_any (U := StepsU rb rl (planeL (tidyF ys).1) k) ys a1 c1 w1 (by have := HSL.out; rwa [HYN.out] at this) HL40.out HNEAR.out (fun lev T hsh h2 h6 T' hT' => start_sub hsh (by omega) (by omega) hT'))
      rw [← HYN.out] at HM
      go_upto_region 4 with fail
      clear t1 t3
      try clear t2
      try clear q0 q1
      go_wp2_with fail
      with_reducible refine HM.out.mono ?_
      rintro e w2 ⟨b, lev, r, S, F, T, rfl, hr, hI, hF, hB2, hwf, hnote, hal, hden, hsh, hl2, hl6⟩
      have HI2 := Lib.hid hI
      have HS12 := Lib.hid hB2.size
      have HW12 := Lib.hid hB2
      have HF2 := Lib.hid hF
      have HB2 := Lib.hid (show Below X.heap.size X w2 from HB1.out.trans (hB2.mono HB1.out.size))
      have hrl := HK.out _ HB2.out
      have l1 : w2.cell? ⟨rp, 0, none⟩ = some (.int .i64 rb) := Joins.cell_of_block hrl 0
      have l2 : w2.cell? ⟨rp, 1, none⟩ = some (.int .i64 rl) := Joins.cell_of_block hrl 1
      have hdead := good_dead HG.out
      have hk40 : k < 40 := HKK.out.2
      have hnr := few_near HL40.out HNEAR.out
      have hcov := steps_room (b := rb) (l := rl) hk40 hnr hdead
      have hlow := stepT_low (n := k) (p := 7) hsh hl2 hdead (by omega) (fun i hi => (hnr.iter hdead i).box (by show 19 + i < 64; omega))
      have hshow := stepT_shows (n := k) hsh hl2 hdead
      have hst := steps_by result_any (U := StepsU rb rl (planeL (tidyF ys).1) k) b 3 S F rb rl lev k T r w2 hI hwf hnote (by omega) HG.out (by omega) hden hl2 (by omega) (fun i _ => ⟨(hshow i).2, Nat.le_trans (hlow i) (by omega)⟩) (fun th hth => step_cover hsh hl2 (by omega) hdead (by omega) (fun i _ => hlow i) hth)
      rw [show ((3 : Nat) : Int) = (3 : Int) from rfl] at hst
      have HLE := Lib.hid hst
      have HAL := Lib.hid hal
      have HCOV := Lib.hid hcov
      have hsh31 := hshow 31
      rw [Nat.mod_eq_of_lt (show k < 2 ^ 31 by omega)] at hsh31
      have HJ := Lib.hid (show Shows (stepT rb rl k lev T 31).1 (stepT rb rl k lev T 31).2 (iterP rb rl k (planeL (tidyF ys).1)) ∧ 2 ≤ (stepT rb rl k lev T 31).1 ∧ (stepT rb rl k lev T 31).1 ≤ 7 from ⟨hsh31.1, hsh31.2, hlow 31⟩)
      have u1 : decide ((k : Int) < 0) = false := decide_eq_false (by omega)
      have u2 : decide ((k : Int) > 1073741824) = false := decide_eq_false (by have := HKK.out.2; omega)
      have u3 : decide (1073741824 < k) = false := decide_eq_false (by have := HKK.out.2; omega)
      have u4 : decide ((1073741824 : Int) < (k : Int)) = false := decide_eq_false (by have := HKK.out.2; omega)
      clear hr hI hF hB2 hwf hnote hal hden hsh hl2 hl6 hrl hcov hnr hlow hshow hst hsh31
      go_wp2_with fail
      with_reducible refine HLE.out.mono ?_
      rintro e w3 ⟨r3, er, S3, F3, rfl, hr3, hres3, hden3, -, hI3, hF3, hk3⟩
      have her : er = 0 := HAL.out.fine hres3 hI3.ok HCOV.out
      subst her
      have hB3 : Below X.heap.size X w3 := HB2.out.trans (hk3.toBelow (B := X.heap.size) (fun i hi => by have := HF2.out i hi; have := HB1.out.size; omega) HB2.out.size)
      have HB3 := Lib.hid hB3
      have hrl3 := HK.out _ hB3
      have m1 : w3.cell? ⟨rp, 0, none⟩ = some (.int .i64 rb) := Joins.cell_of_block hrl3 0
      have m2 : w3.cell? ⟨rp, 1, none⟩ = some (.int .i64 rl) := Joins.cell_of_block hrl3 1
      have HG3 := Lib.hid (HGD.out w3)
      rw [HG.out] at HG3
      have HD3 := Lib.hid (hden3 rfl)
      have HI3 := Lib.hid hI3
      have HK23 := Lib.hid hk3
      clear hr3 hres3 hden3 hI3 hF3 hk3 hB3 hrl3
      go_wp2_with fail
      with_reducible refine HG3.out.mono ?_
      rintro e w4 ⟨rfl, hb4⟩
      have hrl4 := HK.out _ (HB3.out.trans (hb4.mono HB3.out.size))
      have n1 : w4.cell? ⟨rp, 0, none⟩ = some (.int .i64 rb) := Joins.cell_of_block hrl4 0
      have n2 : w4.cell? ⟨rp, 1, none⟩ = some (.int .i64 rl) := Joins.cell_of_block hrl4 1
      have HB4 := Lib.hid hb4
      obtain ⟨⟨rr, re⟩, hrr⟩ : ∃ R, R = runF rb rl ys k := ⟨_, rfl⟩
      have hran : (rr, re) = ranF rb rl ys (k : Int) := by
        rw [hrr]
        unfold ranF
        rw [if_neg (by omega), if_neg (by rw [HG.out]; decide)]; rfl
      have hsl4 : Sl w4 2 16 a1 ys.length c1 (ys.flatMap encCell) := by
        have h := HSL.out
        rw [HYN.out] at h
        have hb : Below w1.heap.size w1 w4 := (HW12.out.trans ((HK23.out.toBelow (B := w1.heap.size) (fun i hi => HF2.out i hi) HS12.out))).trans (HB4.out.mono (Nat.le_trans HS12.out HK23.out.size))
        exact h.below (by omega) hb
      have HRR := Lib.hid ((refRun_any rb rl ys (k : Int) a1 c1 w4 hsl4).mono fun e w' h => ran_lists hran h)
      rw [← HYN.out] at HRR
      have HRUN := Lib.hid hrr
      clear hb4 hrl4 m1 m2 hrr hran hsl4
      go_wp2_with fail
      with_reducible refine HRR.out.mono ?_
      rintro e w5 ⟨a5, c5, rfl, hb5, ht5⟩
      have HB5 := Lib.hid hb5
      have HT5 := Lib.hid ht5
      have HB4X := Lib.hid (HB3.out.trans (HB4.out.mono HB3.out.size))
      clear hb5 ht5 n1 n2 u1 u2 u3 u4
      by_cases hre : re = 0
      · subst hre
        have hrun0 : (runF rb rl ys k).2 = 0 := by rw [← HRUN.out]
        have htd := runF_tidy hrun0
        rw [← HRUN.out] at htd
        have hpl := run_plane HG.out hrun0
        rw [← HRUN.out] at hpl
        have hshow := HJ.out.1
        rw [hpl] at hshow
        have hpc := hshow.cells htd
        have hg7 := HJ.out.2
        obtain ⟨pl, hpl2⟩ : ∃ pl, (stepT rb rl k lev T 31).1 = pl + 1 := ⟨(stepT rb rl k lev T 31).1 - 1, by omega⟩
        have hd3 := HD3.out
        rw [hpl2] at hd3 hpc hg7
        have hi5 : IsAr b S3 w5 F3 := (HI3.out.below HB4.out).below HB5.out
        have hce := qcells_any b 3 S3 F3 pl (stepT rb rl k lev T 31).2 r3 w5 hi5 (by omega) hd3 (by
          have h1 := runF_length rb rl ys k
          rw [← HRUN.out] at h1
          exact Nat.le_trans hpc.1 h1) (by omega)
        rw [cast_two, show pl = pl + 1 - 1 by omega] at hce
        rw [show pl + 1 - 1 + 1 = pl + 1 by omega] at hce
        unfold Tidied at hce
        rw [hpc.2, show ((3 : Nat) : Int) = (3 : Int) from rfl] at hce
        have HCE := Lib.hid hce
        have HRL := Lib.hid (show rr.length ≤ 4096 from by
          have h1 := runF_length rb rl ys k
          rwa [← HRUN.out] at h1)
        obtain ⟨rn, hrn⟩ : ∃ rn, rn = rr.length := ⟨_, rfl⟩
        have HRN := Lib.hid hrn
        rw [← hrn]
        clear hrun0 htd hpl hshow hpc hg7 hpl2 hd3 hi5 hce hrn hdead
        go_wp2_with fail
        with_reducible refine HCE.out.mono ?_
        rintro e w6 ⟨v6, rfl, hb6, ht6⟩
        obtain ⟨a6, c6, rfl, _, _⟩ := ht6.form
        have hs5 := HB5.out.size
        have hs4 := HB4.out.size
        have ht56 : Tight w4.heap.size w6 (.slice a5 rr.length c5) rr := Tight.alike HT5.out fun g h1 h2 => hb6.block g h2
        have HSA := Lib.hid (same_any rr a6 a5 c6 c5 w6 (ht6.sl (by have := HRL.out; omega)) (ht56.sl (by have := HRL.out; omega)))
        rw [← HRN.out] at HSA ⊢
        have HB6 := Lib.hid (show Below X.heap.size X w6 from (HB4X.out.trans (HB5.out.mono HB4X.out.size)).trans (hb6.mono (Nat.le_trans HB4X.out.size hs5)))
        clear hb6 ht6 ht56
        go_wp2_with fail
        with_reducible refine HSA.out.mono ?_
        rintro e w8 ⟨rfl, hb8⟩
        have HB8 := Lib.hid (show Below w.heap.size w w8 from HBX.out.trans ((HB6.out.trans (hb8.mono HB6.out.size)).mono HBX.out.size))
        clear hb8
        go_wp2_with fail
        go_ret
        exact ⟨by simp, HB8.out⟩
      · have v1 : (re == 0) = false := by simpa using hre
        have v2 : (re != 0) = true := by simpa using hre
        have HBE := Lib.hid (show Below w.heap.size w w5 from HBX.out.trans ((HB4X.out.trans (HB5.out.mono HB4X.out.size)).mono HBX.out.size))
        clear hre
        go_wp2_with fail
        go_ret
        exact ⟨rfl, HBE.out⟩
  · skip
    have HJN := Lib.hid h0
    have t1 : decide (j ≥ 0) = false := decide_eq_false (by omega)
    have t3 : decide (0 ≤ j) = false := decide_eq_false (by omega)
    have HM := Lib.hid (madeFew_any (U := fun _ => True) ys a1 c1 w1 (by have := HSL.out; rwa [HYN.out] at this) HL40.out HNEAR.out (fun _ _ _ _ _ _ _ => trivial))
    rw [← HYN.out] at HM
    go_upto_region 4 with fail
    clear t1 t3
    try clear t2
    try clear q0 q1
    go_wp2_with fail
    with_reducible refine HM.out.mono ?_
    rintro e w2 ⟨b, lev, r, S, F, T, rfl, hr, hI, hF, hB2, hwf, hnote, hal, hden, hsh, hl2, hl6⟩
    have HI2 := Lib.hid hI
    have HS12 := Lib.hid hB2.size
    have HW12 := Lib.hid hB2
    have HF2 := Lib.hid hF
    have HB2 := Lib.hid (show Below X.heap.size X w2 from HB1.out.trans (hB2.mono HB1.out.size))
    have hrl := HK.out _ HB2.out
    have l1 : w2.cell? ⟨rp, 0, none⟩ = some (.int .i64 rb) := Joins.cell_of_block hrl 0
    have l2 : w2.cell? ⟨rp, 1, none⟩ = some (.int .i64 rl) := Joins.cell_of_block hrl 1
    have HLE := Lib.hid (steps_range b 3 rb rl r j w2 (.inl HJN.out))
    rw [show ((3 : Nat) : Int) = (3 : Int) from rfl] at HLE
    clear hr hI hF hB2 hwf hnote hal hden hsh hl2 hl6 hrl
    go_wp2_with fail
    with_reducible refine HLE.out.mono ?_
    rintro e w3 ⟨rfl, hb3⟩
    have HB3 := Lib.hid (show Below w.heap.size w w3 from HBX.out.trans ((HB2.out.trans (hb3.mono HB2.out.size)).mono HBX.out.size))
    clear hb3
    have u1 : decide (j < 0) = true := decide_eq_true h0
    go_wp2_with fail
    go_ret
    exact ⟨rfl, HB3.out⟩
  · skip
    have HJN := Lib.hid h1
    have t1 : decide (j ≥ 0) = true := decide_eq_true h0
    have t3 : decide (0 ≤ j) = true := decide_eq_true h0
    have t2 : decide (j ≤ 1073741824) = false := decide_eq_false (by omega)
    have HM := Lib.hid (madeFew_any (U := fun _ => True) ys a1 c1 w1 (by have := HSL.out; rwa [HYN.out] at this) HL40.out HNEAR.out (fun _ _ _ _ _ _ _ => trivial))
    rw [← HYN.out] at HM
    go_upto_region 4 with fail
    clear t1 t3
    try clear t2
    try clear q0 q1
    go_wp2_with fail
    with_reducible refine HM.out.mono ?_
    rintro e w2 ⟨b, lev, r, S, F, T, rfl, hr, hI, hF, hB2, hwf, hnote, hal, hden, hsh, hl2, hl6⟩
    have HI2 := Lib.hid hI
    have HS12 := Lib.hid hB2.size
    have HW12 := Lib.hid hB2
    have HF2 := Lib.hid hF
    have HB2 := Lib.hid (show Below X.heap.size X w2 from HB1.out.trans (hB2.mono HB1.out.size))
    have hrl := HK.out _ HB2.out
    have l1 : w2.cell? ⟨rp, 0, none⟩ = some (.int .i64 rb) := Joins.cell_of_block hrl 0
    have l2 : w2.cell? ⟨rp, 1, none⟩ = some (.int .i64 rl) := Joins.cell_of_block hrl 1
    have HLE := Lib.hid (steps_range b 3 rb rl r j w2 (.inr HJN.out))
    rw [show ((3 : Nat) : Int) = (3 : Int) from rfl] at HLE
    clear hr hI hF hB2 hwf hnote hal hden hsh hl2 hl6 hrl
    go_wp2_with fail
    with_reducible refine HLE.out.mono ?_
    rintro e w3 ⟨rfl, hb3⟩
    have HB3 := Lib.hid (show Below w.heap.size w w3 from HBX.out.trans ((HB2.out.trans (hb3.mono HB2.out.size)).mono HBX.out.size))
    clear hb3
    have u1 : decide (j < 0) = false := decide_eq_false (by omega)
    have u2 : decide (j > 1073741824) = true := decide_eq_true (by omega)
    have u3 : decide (1073741824 < j) = true := decide_eq_true (by omega)
    go_wp2_with fail
    go_ret
    exact ⟨rfl, HB3.out⟩
section
open Go.ChangeShapes Go.WideShapes Go.ChangeAt
set_option maxRecDepth 100000 in
theorem lifted_leapSteps (os : Os) (started : os.Started) (H : Type) (enc : TypeId × Value → H)
    (walk : ∀ (W : World) (v0 : Value) (v1 : Value) (v2 : Value), Is_rule W v0 → Is_cells W v1 → Is_int W v2 → Calls Try.prog 3 #[v0, v1, v2] W fun e w' => e = .returned (.bool true) ∧ Below W.heap.size W w') :
    ReturnsInHanded {} Try.checked os 3 .any (Rows.leapStepsSpec.pre6 enc Try.prog Try.f3 Rows.leapStepsRow.domain false) (Rows.leapStepsSpec.post enc Try.prog Try.f3 false true false false) := by
  refine returnsInHanded_of_change_sized (C := Try.checked) own started (by kernel_rfl) Try.func3
    (ChangeSpec.witness6 (enc := enc) (C := Try.checked) false ⟨#[], #[.agg #[.int .i64 0, .int .i64 0], .slice none 0 0, .int .i64 0], []⟩ 8 (by kernel_rfl) (by kernel_rfl) (by kernel_rfl) (by kernel_rfl)) ?_
  intro W base args ds gs before hval0 hW hcnd hsz0 _
  have hval : ∀ (j : Nat) t v, Try.f3.params[j]? = some t → args[j]? = some v → Value.okWide Try.prog W .any base t v := hval0
  have hW' := hW
  obtain ⟨p, q, hA0, hV, rfl, hfz, hnd⟩ := hW
  have hA : DataW.TrodAll enc Try.prog W 0 (fun _ => true) true Try.f3.params.toList args.toList ds p := hA0
  rw [Try.params3] at hA hval
  obtain ⟨rfl, rfl⟩ := trodVars_none hV
  have hB := hA
  obtain ⟨v0, vs0, d0, ds0, p0, q0, hargs, rfl, rfl, h0, r0⟩ := trodAll_cons hA
  obtain ⟨v1, vs1, d1, ds1, p1, q1, rfl, rfl, rfl, h1, r1⟩ := trodAll_cons r0
  obtain ⟨v2, vs2, d2, ds2, p2, q2, rfl, rfl, rfl, h2, r2⟩ := trodAll_cons r1
  obtain ⟨rfl, rfl, rfl⟩ := trodAll_nil r2
  obtain rfl : args = #[v0, v1, v2] := by cases args; simp_all
  have hsz : (DataW.weightsEach Try.prog [23, 24, 3] [d0, d1, d2]).all (· ≤ reachBytes) = true := hsz0
  have i0 := open_rule (hval 0 23 v0 rfl rfl) h0 (weights_le hsz 0 rfl rfl)
  have i1 := open_cells (hval 1 24 v1 rfl rfl) h1 (weights_le hsz 1 rfl rfl)
  have i2 := open_int (hval 2 3 v2 rfl rfl) h2 (weights_le hsz 2 rfl rfl)
  refine (walk W v0 v1 v2 i0 i1 i2).mono fun e W' ⟨he, bel⟩ => ?_
  subst he
  exact ⟨_, rfl, _, _, _, [], _, [], hW', trodAll_mk1 (shut_bool Try.underlying4 _), trodAll_below laidOut (by kernel_rfl) hB bel, rfl, bel.frame _, fun h => by cases h⟩

theorem over_leapSteps (walk : ∀ (W : World) (v0 : Value) (v1 : Value) (v2 : Value), Is_rule W v0 → Is_cells W v1 → Is_int W v2 → Calls Try.prog 3 #[v0, v1, v2] W fun e w' => e = .returned (.bool true) ∧ Below W.heap.size W w') :
    Rows.leapStepsRow.holds Try.pinned (OpenSpec.ofChange Rows.leapStepsSpec) :=
  OpenClaim.holds_of_wide 3 Try.f3 rfl rfl rfl rfl rfl rfl rfl ⟨rfl, rfl, rfl, rfl, rfl⟩ rfl rfl rfl rfl rfl (by kernel_rfl) Try.func3 (by kernel_rfl)
    (of_decide_eq_true (by kernel_rfl)) (by unfold Func.isWrapper; first | (rw [if_pos (by decide +kernel)]; kernel_rfl) | (rw [if_neg (by decide +kernel)]; exact ⟨rfl, rfl⟩))
    (fun os started H enc _ => lifted_leapSteps os started H enc walk)
end
theorem leapSteps_proved : Rows.LeapStepsSaid := over_leapSteps fun W _ _ _ ⟨rb, rl, e1, _, _⟩ ⟨zs, ⟨a, cap, e2, hs⟩, _⟩ ⟨n, e3, _⟩ => by
  subst e1; subst e2; subst e3
  exact law_leapSteps rb rl zs n a cap W hs
end Go.Proofs.Ytabhpbkkjijfjaa
