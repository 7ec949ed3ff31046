/-
  rle.head. (Printed by wip/bin/headgen.py.)
-/
import Derived.Test.YtffgpjkkgndkiaaHeadMath
namespace Go.Proofs.Ytffgpjkkgndkiaa
set_option maxRecDepth 100000
open Go.RowKit

theorem numK_ok {l : List UInt8} (h : okN l = true) : numK l = digs l := by
  have := (okN_iff.1 h).2.1
  unfold numK
  omega
set_option maxHeartbeats 8000000 in
theorem head_any (l : List UInt8) (w : World) (hl : l.length ≤ 140737488351232) :
    Calls Try.prog 51 #[.string (txt l)] w (HeadAs w (headF l)) := by
  obtain ⟨⟨L1, b1⟩, h1⟩ : ∃ R, R = cutPre xE l := ⟨_, rfl⟩
  have hl1 : L1.length ≤ l.length := by
    have := congrArg Prod.fst h1
    rw [cutPre] at this
    dsimp only at this
    split at this
    · rw [this, List.length_drop]; omega
    · rw [this]; exact Nat.le_refl _
  obtain ⟨L2, h2⟩ : ∃ R, R = L1.drop (numK L1) := ⟨_, rfl⟩
  have hl2 : L2.length ≤ L1.length := by rw [h2, List.length_drop]; omega
  obtain ⟨⟨L3, b3⟩, h3⟩ : ∃ R, R = cutPre yE L2 := ⟨_, rfl⟩
  have hl3 : L3.length ≤ L2.length := by
    have := congrArg Prod.fst h3
    rw [cutPre] at this
    dsimp only at this
    split at this
    · rw [this, List.length_drop]; omega
    · rw [this]; exact Nat.le_refl _
  obtain ⟨L4, h4⟩ : ∃ R, R = L3.drop (numK L3) := ⟨_, rfl⟩
  have hl4 : L4.length ≤ L3.length := by rw [h4, List.length_drop]; omega
  obtain ⟨⟨L5, b5⟩, h5⟩ : ∃ R, R = cutPre rE L4 := ⟨_, rfl⟩
  have hl5 : L5.length ≤ L4.length := by
    have := congrArg Prod.fst h5
    rw [cutPre] at this
    dsimp only at this
    split at this
    · rw [this, List.length_drop]; omega
    · rw [this]; exact Nat.le_refl _
  have c1 := fun W => cutPrefix_any l xE W hl (by decide)
  have c2 := fun W => number_any L1 W (by omega)
  have c3 := fun W => cutPrefix_any L2 yE W (by omega) (by decide)
  have c4 := fun W => number_any L3 W (by omega)
  have c5 := fun W => cutPrefix_any L4 rE W (by omega) (by decide)
  have c6 := fun W => read_any L5 W (by omega)
  rw [← h1] at c1
  rw [← h2] at c2
  rw [← h3] at c3
  rw [← h4] at c4
  rw [← h5] at c5
  unfold ReadAs at c6
  obtain ⟨⟨⟨x0, x1⟩, er⟩, h6⟩ : ∃ R, R = readF L5 := ⟨_, rfl⟩
  rw [← h6] at c6
  dsimp only at c1 c2 c3 c4 c5 c6
  obtain ⟨b2, hb2⟩ : ∃ b, b = okN L1 := ⟨_, rfl⟩
  obtain ⟨b4, hb4⟩ : ∃ b, b = okN L3 := ⟨_, rfl⟩
  obtain ⟨v1, hv1⟩ : ∃ v, v = decV (L1.take (numK L1)) := ⟨_, rfl⟩
  obtain ⟨v2, hv2⟩ : ∃ v, v = decV (L3.take (numK L3)) := ⟨_, rfl⟩
  rw [← hb2, ← hv1] at c2
  rw [← hb4, ← hv2] at c4
  have n1 : b1 = false → headF l = none := fun h => headF_no1 (by
    have := congrArg Prod.snd h1
    rw [h, cutPre] at this
    cases hp : preB xE l
    · rfl
    · rw [hp] at this; simp at this)
  have y1 : b1 = true → preB xE l = true ∧ L1 = l.drop 4 := fun h => by
    rw [h, cutPre] at h1
    cases hp : preB xE l
    · rw [hp] at h1; simp at h1
    · rw [hp] at h1; exact ⟨rfl, (Prod.mk.inj h1).1⟩
  have n2 : b1 = true → b2 = false → headF l = none := fun g h => headF_no2 (by rw [← (y1 g).2, ← hb2, h])
  have y2 : b1 = true → b2 = true → okN (l.drop 4) = true ∧ L2 = aftN (l.drop 4) ∧ v1 = valN (l.drop 4) := fun g h => by
    have e := (y1 g).2
    rw [h] at hb2
    have hk := numK_ok hb2.symm
    rw [e] at hb2 hk
    refine ⟨hb2.symm, by rw [h2, e, hk]; rfl, by rw [hv1, e, hk]; rfl⟩
  have n3 : b1 = true → b2 = true → b3 = false → headF l = none := fun g1 g2 h => headF_no3 (by
    rw [← (y2 g1 g2).2.1]
    have := congrArg Prod.snd h3
    rw [h, cutPre] at this
    cases hp : preB yE L2
    · rfl
    · rw [hp] at this; simp at this)
  have y3 : b1 = true → b2 = true → b3 = true → preB yE (aftN (l.drop 4)) = true ∧ L3 = (aftN (l.drop 4)).drop 6 := fun g1 g2 h => by
    rw [h, cutPre] at h3
    rw [← (y2 g1 g2).2.1]
    cases hp : preB yE L2
    · rw [hp] at h3; simp at h3
    · rw [hp] at h3; exact ⟨rfl, (Prod.mk.inj h3).1⟩
  have n4 : b1 = true → b2 = true → b3 = true → b4 = false → headF l = none := fun g1 g2 g3 h => headF_no4 (by rw [← (y3 g1 g2 g3).2, ← hb4, h])
  have y4 : b1 = true → b2 = true → b3 = true → b4 = true → headF l = (headR L4).map fun r => ((v1, v2), r) := fun g1 g2 g3 h => by
    have e := (y3 g1 g2 g3).2
    rw [h] at hb4
    have hk := numK_ok hb4.symm
    rw [headF_in (y1 g1).1 (y2 g1 g2).1 (y3 g1 g2 g3).1 (by rw [← e]; exact hb4.symm), h4, hk, hv2, hk, (y2 g1 g2).2.2, e]
    rfl
  have r0 : L4 = [] → headR L4 = some (8, 12) := fun h => by rw [headR, if_pos h]
  have r1 : L4 ≠ [] → b5 = false → headR L4 = none := fun g h => by
    rw [headR, if_neg g]
    have := congrArg Prod.snd h5
    rw [h, cutPre] at this
    cases hp : preB rE L4
    · rfl
    · rw [hp] at this; simp at this
  have r2 : L4 ≠ [] → b5 = true → headR L4 = if er = 0 then some (x0, x1) else none := fun g h => by
    rw [h, cutPre] at h5
    cases hp : preB rE L4
    · rw [hp] at h5; simp at h5
    · rw [hp] at h5
      have e : L5 = L4.drop 9 := (Prod.mk.inj h5).1
      rw [headR, if_neg g, if_pos hp, ← e, ← h6]
  obtain ⟨S, hS⟩ : ∃ S, S = txt l := ⟨_, rfl⟩
  obtain ⟨S1, hS1⟩ : ∃ S, S = txt L1 := ⟨_, rfl⟩
  obtain ⟨S2, hS2⟩ : ∃ S, S = txt L2 := ⟨_, rfl⟩
  obtain ⟨S3, hS3⟩ : ∃ S, S = txt L3 := ⟨_, rfl⟩
  obtain ⟨S4, hS4⟩ : ∃ S, S = txt L4 := ⟨_, rfl⟩
  obtain ⟨S5, hS5⟩ : ∃ S, S = txt L5 := ⟨_, rfl⟩
  rw [← hS, ← hS1] at c1
  rw [← hS1, ← hS2] at c2
  rw [← hS2, ← hS3] at c3
  rw [← hS3, ← hS4] at c4
  rw [← hS4, ← hS5] at c5
  rw [← hS5] at c6
  rw [← hS]
  have C1 := Lib.hid c1
  have C2 := Lib.hid c2
  have C3 := Lib.hid c3
  have C4 := Lib.hid c4
  have C5 := Lib.hid c5
  have C6 := Lib.hid c6
  have N1 := Lib.hid n1
  have N2 := Lib.hid n2
  have N3 := Lib.hid n3
  have N4 := Lib.hid n4
  have Y4 := Lib.hid y4
  have R0 := Lib.hid r0
  have R1 := Lib.hid r1
  have R2 := Lib.hid r2
  have HS4 := Lib.hid hS4
  clear c1 c2 c3 c4 c5 c6 n1 n2 n3 n4 y1 y2 y3 y4 r0 r1 r2 h1 h2 h3 h4 h5 h6 hb2 hb4 hv1 hv2 hS hS1 hS2 hS3 hS4 hS5 hl1 hl2 hl3 hl4 hl5
  go_enter Try.func51, Try.ntmps51
  go_wp2_with fail
  refine (C1.out _).mono ?_
  rintro e W1 ⟨rfl, hW⟩
  have hbx : HBox w W1 w.heap.size 8 12 := by rw [hW]; exact HBox.start w
  obtain ⟨B, hBe⟩ : ∃ b, b = w.heap.size := ⟨_, rfl⟩
  rw [← hBe] at hbx ⊢
  clear hW hBe C1
  go_wp2_with fail
  refine (C2.out _).mono ?_
  rintro e W2 ⟨rfl, hx2⟩
  have hbx := hbx.grow hx2
  clear hx2 C2
  go_wp2_with fail
  refine (C3.out _).mono ?_
  rintro e W3 ⟨rfl, hW⟩
  subst hW
  clear C3
  go_wp2_with fail
  refine (C4.out _).mono ?_
  rintro e W4 ⟨rfl, hx4⟩
  have hbx := hbx.grow hx4
  clear hx4 C4
  cases b1
  · have HNO := Lib.hid (N1.out rfl)
    obtain ⟨hd, p0, p1, hBf, hlt⟩ := hbx.ends
    obtain ⟨c0, c1, f0, f1, z0, z1⟩ := hd
    have hd' : W4.drew.cell? ⟨B + 1, 0, none⟩ = some (.int .i64 8) ∧ W4.drew.cell? ⟨B + 1, 1, none⟩ = some (.int .i64 12) ∧ W4.drew.frozen? ⟨B, 0, none⟩ = false ∧ W4.drew.frozen? ⟨B, 1, none⟩ = false ∧ W4.drew.cell? ⟨B, 0, none⟩ = some (.int .i64 0) ∧ W4.drew.cell? ⟨B, 1, none⟩ = some (.int .i64 0) := ⟨c0, c1, f0, f1, z0, z1⟩
    obtain ⟨c0', c1', f0', f1', z0', z1'⟩ := hd'
    have HBF := Lib.hid hBf
    clear hBf hbx
    go_wp2_with fail
    go_region
    go_wp2_with fail
    refine bodyPost_ret (v := .tuple #[.int .i64 0, .int .i64 0, .agg #[.int .i64 8, .int .i64 12], .bool false]) (by simp [results, Try.results51, go_sem, p0, p1]) rfl (HeadAs.no HNO.out 0 0 8 12 HBF.out)
  · cases b2
    · have HNO := Lib.hid (N2.out rfl rfl)
      obtain ⟨hd, p0, p1, hBf, hlt⟩ := hbx.ends
      obtain ⟨c0, c1, f0, f1, z0, z1⟩ := hd
      have hd' : W4.drew.cell? ⟨B + 1, 0, none⟩ = some (.int .i64 8) ∧ W4.drew.cell? ⟨B + 1, 1, none⟩ = some (.int .i64 12) ∧ W4.drew.frozen? ⟨B, 0, none⟩ = false ∧ W4.drew.frozen? ⟨B, 1, none⟩ = false ∧ W4.drew.cell? ⟨B, 0, none⟩ = some (.int .i64 0) ∧ W4.drew.cell? ⟨B, 1, none⟩ = some (.int .i64 0) := ⟨c0, c1, f0, f1, z0, z1⟩
      obtain ⟨c0', c1', f0', f1', z0', z1'⟩ := hd'
      have HBF := Lib.hid hBf
      clear hBf hbx
      go_wp2_with fail
      go_region
      go_wp2_with fail
      refine bodyPost_ret (v := .tuple #[.int .i64 0, .int .i64 0, .agg #[.int .i64 8, .int .i64 12], .bool false]) (by simp [results, Try.results51, go_sem, p0, p1]) rfl (HeadAs.no HNO.out 0 0 8 12 HBF.out)
    · cases b3
      · have HNO := Lib.hid (N3.out rfl rfl rfl)
        obtain ⟨hd, p0, p1, hBf, hlt⟩ := hbx.ends
        obtain ⟨c0, c1, f0, f1, z0, z1⟩ := hd
        have hd' : W4.drew.cell? ⟨B + 1, 0, none⟩ = some (.int .i64 8) ∧ W4.drew.cell? ⟨B + 1, 1, none⟩ = some (.int .i64 12) ∧ W4.drew.frozen? ⟨B, 0, none⟩ = false ∧ W4.drew.frozen? ⟨B, 1, none⟩ = false ∧ W4.drew.cell? ⟨B, 0, none⟩ = some (.int .i64 0) ∧ W4.drew.cell? ⟨B, 1, none⟩ = some (.int .i64 0) := ⟨c0, c1, f0, f1, z0, z1⟩
        obtain ⟨c0', c1', f0', f1', z0', z1'⟩ := hd'
        have HBF := Lib.hid hBf
        clear hBf hbx
        go_wp2_with fail
        go_region
        go_wp2_with fail
        refine bodyPost_ret (v := .tuple #[.int .i64 0, .int .i64 0, .agg #[.int .i64 8, .int .i64 12], .bool false]) (by simp [results, Try.results51, go_sem, p0, p1]) rfl (HeadAs.no HNO.out 0 0 8 12 HBF.out)
      · cases b4
        · have HNO := Lib.hid (N4.out rfl rfl rfl rfl)
          obtain ⟨hd, p0, p1, hBf, hlt⟩ := hbx.ends
          obtain ⟨c0, c1, f0, f1, z0, z1⟩ := hd
          have hd' : W4.drew.cell? ⟨B + 1, 0, none⟩ = some (.int .i64 8) ∧ W4.drew.cell? ⟨B + 1, 1, none⟩ = some (.int .i64 12) ∧ W4.drew.frozen? ⟨B, 0, none⟩ = false ∧ W4.drew.frozen? ⟨B, 1, none⟩ = false ∧ W4.drew.cell? ⟨B, 0, none⟩ = some (.int .i64 0) ∧ W4.drew.cell? ⟨B, 1, none⟩ = some (.int .i64 0) := ⟨c0, c1, f0, f1, z0, z1⟩
          obtain ⟨c0', c1', f0', f1', z0', z1'⟩ := hd'
          have HBF := Lib.hid hBf
          clear hBf hbx
          go_wp2_with fail
          go_region
          go_wp2_with fail
          refine bodyPost_ret (v := .tuple #[.int .i64 0, .int .i64 0, .agg #[.int .i64 8, .int .i64 12], .bool false]) (by simp [results, Try.results51, go_sem, p0, p1]) rfl (HeadAs.no HNO.out 0 0 8 12 HBF.out)
        · have HY := Lib.hid (Y4.out rfl rfl rfl rfl)
          by_cases hnil : L4 = []
          · have hh : headF l = some ((v1, v2), (8, 12)) := by rw [HY.out, R0.out hnil]; rfl
            have HH := Lib.hid hh
            have hT : S4 = ⟨#[]⟩ := by rw [HS4.out, hnil]; rfl
            subst hT
            clear hh hnil
            obtain ⟨hd, p0, p1, hBf, hlt⟩ := hbx.ends
            obtain ⟨c0, c1, f0, f1, z0, z1⟩ := hd
            have hd' : W4.drew.cell? ⟨B + 1, 0, none⟩ = some (.int .i64 8) ∧ W4.drew.cell? ⟨B + 1, 1, none⟩ = some (.int .i64 12) ∧ W4.drew.frozen? ⟨B, 0, none⟩ = false ∧ W4.drew.frozen? ⟨B, 1, none⟩ = false ∧ W4.drew.cell? ⟨B, 0, none⟩ = some (.int .i64 0) ∧ W4.drew.cell? ⟨B, 1, none⟩ = some (.int .i64 0) := ⟨c0, c1, f0, f1, z0, z1⟩
            obtain ⟨c0', c1', f0', f1', z0', z1'⟩ := hd'
            have HBF := Lib.hid hBf
            clear hBf hbx
            go_wp2_with fail
            go_region
            go_wp2_with fail
            refine bodyPost_ret (v := .tuple #[.int .i64 v1, .int .i64 v2, .agg #[.int .i64 8, .int .i64 12], .bool true]) (by simp [results, Try.results51, go_sem, p0, p1]) rfl (HeadAs.yes HH.out HBF.out)
          · have HNIL := Lib.hid hnil
            have e1 : ¬ S4.toList = [] := by rw [HS4.out, txt_toList]; exact hnil
            have e2 : S4.toList.isEmpty = false := by
              cases he : S4.toList with
              | nil => exact absurd he e1
              | cons a r => rfl
            have HBX := Lib.hid hbx
            clear hnil hbx
            go_wp2_with fail
            refine (C5.out _).mono ?_
            rintro e W5 ⟨rfl, hW⟩
            subst hW
            clear C5
            go_wp2_with fail
            refine (C6.out _).mono ?_
            rintro e W6 ⟨rfl, hx6⟩
            have hbx6 := HBX.out.grow hx6
            have g0 : W6.cell? ⟨B + 1, 0, none⟩ = some (.int .i64 8) := Joins.cell_of_block hbx6.b1 0
            have g1 : W6.cell? ⟨B + 1, 1, none⟩ = some (.int .i64 12) := Joins.cell_of_block hbx6.b1 1
            have q0 : W6.frozen? ⟨B + 1, 0, none⟩ = false := Joins.unfrozen_of_block hbx6.b1 0
            have q1 : W6.frozen? ⟨B + 1, 1, none⟩ = false := Joins.unfrozen_of_block hbx6.b1 1
            have hbx7 := hbx6.store x0 x1
            have HBX7 := Lib.hid hbx7
            clear hx6 hbx6 hbx7 HBX C6
            go_wp2_with fail
            obtain ⟨W7, hW7⟩ : ∃ W7, W7 = (W6.setCell ⟨B + 1, 0, none⟩ (.int .i64 x0)).setCell ⟨B + 1, 1, none⟩ (.int .i64 x1) := ⟨_, rfl⟩
            have hbx := HBX7.out
            rw [← hW7] at hbx ⊢
            clear hW7 g0 g1 q0 q1 HBX7
            cases b5
            · have hh : headF l = none := by rw [HY.out, R1.out HNIL.out rfl]; rfl
              have HNO := Lib.hid hh
              clear hh
              obtain ⟨hd, p0, p1, hBf, hlt⟩ := hbx.ends
              obtain ⟨c0, c1, f0, f1, z0, z1⟩ := hd
              have hd' : W7.drew.cell? ⟨B + 1, 0, none⟩ = some (.int .i64 x0) ∧ W7.drew.cell? ⟨B + 1, 1, none⟩ = some (.int .i64 x1) ∧ W7.drew.frozen? ⟨B, 0, none⟩ = false ∧ W7.drew.frozen? ⟨B, 1, none⟩ = false ∧ W7.drew.cell? ⟨B, 0, none⟩ = some (.int .i64 0) ∧ W7.drew.cell? ⟨B, 1, none⟩ = some (.int .i64 0) := ⟨c0, c1, f0, f1, z0, z1⟩
              obtain ⟨c0', c1', f0', f1', z0', z1'⟩ := hd'
              have HBF := Lib.hid hBf
              clear hBf hbx
              go_wp2_with fail
              go_region
              go_wp2_with fail
              refine bodyPost_ret (v := .tuple #[.int .i64 v1, .int .i64 v2, .agg #[.int .i64 x0, .int .i64 x1], .bool false]) (by simp [results, Try.results51, go_sem, p0, p1]) rfl (HeadAs.no HNO.out v1 v2 x0 x1 HBF.out)
            · by_cases her : er = 0
              · subst her
                have hh : headF l = some ((v1, v2), (x0, x1)) := by rw [HY.out, R2.out HNIL.out rfl, if_pos rfl]; rfl
                have HH := Lib.hid hh
                clear hh
                obtain ⟨hd, p0, p1, hBf, hlt⟩ := hbx.ends
                obtain ⟨c0, c1, f0, f1, z0, z1⟩ := hd
                have hd' : W7.drew.cell? ⟨B + 1, 0, none⟩ = some (.int .i64 x0) ∧ W7.drew.cell? ⟨B + 1, 1, none⟩ = some (.int .i64 x1) ∧ W7.drew.frozen? ⟨B, 0, none⟩ = false ∧ W7.drew.frozen? ⟨B, 1, none⟩ = false ∧ W7.drew.cell? ⟨B, 0, none⟩ = some (.int .i64 0) ∧ W7.drew.cell? ⟨B, 1, none⟩ = some (.int .i64 0) := ⟨c0, c1, f0, f1, z0, z1⟩
                obtain ⟨c0', c1', f0', f1', z0', z1'⟩ := hd'
                have HBF := Lib.hid hBf
                clear hBf hbx
                go_wp2_with fail
                go_region
                go_wp2_with fail
                refine bodyPost_ret (v := .tuple #[.int .i64 v1, .int .i64 v2, .agg #[.int .i64 x0, .int .i64 x1], .bool true]) (by simp [results, Try.results51, go_sem, p0, p1]) rfl (HeadAs.yes HH.out HBF.out)
              · have hz : (er == 0) = false := by simp [her]
                have hh : headF l = none := by rw [HY.out, R2.out HNIL.out rfl, if_neg her]; rfl
                have HNO := Lib.hid hh
                clear hh
                obtain ⟨hd, p0, p1, hBf, hlt⟩ := hbx.ends
                obtain ⟨c0, c1, f0, f1, z0, z1⟩ := hd
                have hd' : W7.drew.cell? ⟨B + 1, 0, none⟩ = some (.int .i64 x0) ∧ W7.drew.cell? ⟨B + 1, 1, none⟩ = some (.int .i64 x1) ∧ W7.drew.frozen? ⟨B, 0, none⟩ = false ∧ W7.drew.frozen? ⟨B, 1, none⟩ = false ∧ W7.drew.cell? ⟨B, 0, none⟩ = some (.int .i64 0) ∧ W7.drew.cell? ⟨B, 1, none⟩ = some (.int .i64 0) := ⟨c0, c1, f0, f1, z0, z1⟩
                obtain ⟨c0', c1', f0', f1', z0', z1'⟩ := hd'
                have HBF := Lib.hid hBf
                clear hBf hbx
                go_wp2_with fail
                go_region
                go_wp2_with fail
                refine bodyPost_ret (v := .tuple #[.int .i64 v1, .int .i64 v2, .agg #[.int .i64 x0, .int .i64 x1], .bool false]) (by simp [results, Try.results51, go_sem, p0, p1]) rfl (HeadAs.no HNO.out v1 v2 x0 x1 HBF.out)
end Go.Proofs.Ytffgpjkkgndkiaa
