/-
  The document's headOf. (Printed by wip/bin/headgen.py.)
-/
import Derived.Test.YtffgpjkkgndkiaaHeadMath
namespace Go.Proofs.Ytffgpjkkgndkiaa
set_option maxRecDepth 100000
open Go.RowKit

set_option maxHeartbeats 8000000 in
theorem headOf_any (l : List UInt8) (w : World) (hl : l.length ≤ 140737488351232) :
    Calls Try.prog 53 #[.string (txt l)] w (HeadAs w (headF l)) := by
  have hst := fun (p : List UInt8) (a : Nat) W (hp : p.length ≤ 1000) (ha : a ≤ l.length) => starts_any l p a W hl hp ha
  have hpl := fun (a : Nat) W (ha : a ≤ l.length) => plain_any l a W hl ha
  obtain ⟨S, hS⟩ : ∃ S, S = txt l := ⟨_, rfl⟩
  have hsz : S.size = l.length := by rw [hS, txt_size]
  have hrr : ∀ j W, Calls Try.prog 105 #[.string (S.extract j l.length)] W (ReadAs W (readF (l.drop j))) := fun j W => by
    rw [hS, extract_list, List.take_length]
    exact refRead_any (l.drop j) W (by rw [List.length_drop]; omega)
  rw [← hS] at hst hpl ⊢
  have HST := Lib.hid hst
  have HPL := Lib.hid hpl
  obtain ⟨n, hn⟩ : ∃ n, n = l.length := ⟨_, rfl⟩
  rw [← hn] at hsz hrr hl
  have HRR := Lib.hid hrr
  have HN := Lib.hid hn
  have hx0 := hst xE 0 ((w.alloc (.cells #[.int .i64 0, .int .i64 0] 24)).alloc (.cells #[.int .i64 8, .int .i64 12] 24)) (by decide) (Nat.zero_le _)
  have HX0 := Lib.hid hx0
  clear hst hpl hrr hS hn hx0
  go_enter Try.func53, Try.ntmps53
  go_wp2_with fail
  refine HX0.out.mono ?_
  rintro e W ⟨rfl, hW⟩
  have hbx : HBox w W w.heap.size 8 12 := by rw [hW]; exact HBox.start w
  obtain ⟨B, hBe⟩ : ∃ b, b = w.heap.size := ⟨_, rfl⟩
  rw [← hBe] at hbx ⊢
  clear hW hBe HX0
  cases hp1 : preB xE l
  · have hs : startF l xE 0 = -1 := by rw [startF, List.drop_zero, hp1]; rfl
    have HNO := Lib.hid (headF_no1 hp1)
    rw [hs]
    clear hs hp1
    obtain ⟨hd, p0, p1, hBf, hlt⟩ := hbx.ends
    obtain ⟨c0, c1, f0, f1, z0, z1⟩ := hd
    have hd' : W.drew.cell? ⟨B + 1, 0, none⟩ = some (.int .i64 8) ∧ W.drew.cell? ⟨B + 1, 1, none⟩ = some (.int .i64 12) ∧ W.drew.frozen? ⟨B, 0, none⟩ = false ∧ W.drew.frozen? ⟨B, 1, none⟩ = false ∧ W.drew.cell? ⟨B, 0, none⟩ = some (.int .i64 0) ∧ W.drew.cell? ⟨B, 1, none⟩ = some (.int .i64 0) := ⟨c0, c1, f0, f1, z0, z1⟩
    obtain ⟨c0', c1', f0', f1', z0', z1'⟩ := hd'
    have HBF := Lib.hid hBf
    clear hBf hbx
    go_wp2_with fail
    go_region
    go_wp2_with fail
    refine bodyPost_ret (v := .tuple #[.int .i64 0, .int .i64 0, .agg #[.int .i64 8, .int .i64 12], .bool false]) (by simp [results, Try.results53, go_sem, p0, p1]) rfl (HeadAs.no HNO.out 0 0 8 12 HBF.out)
  · have hs : startF l xE 0 = 4 := by rw [startF, List.drop_zero, hp1]; rfl
    have hx : 4 ≤ l.length := by have := (preB_iff.1 hp1).1; simpa [xE] using this
    rw [hs]
    have HP := Lib.hid (HPL.out 4 W hx)
    clear hs
    go_wp2_with fail
    refine HP.out.mono ?_
    rintro e W2 ⟨rfl, hb2⟩
    have hbx := hbx.grow hb2
    clear HP hb2
    cases hok1 : okN (l.drop 4)
    · have hf : plainF l 4 = (0, -1) := by rw [plainF, hok1]; rfl
      have HNO := Lib.hid (headF_no2 hok1)
      rw [hf]
      have HS2 := Lib.hid (starts_neg S (txt yE) W2)
      clear hf hok1 hp1
      obtain ⟨hd, p0, p1, hBf, hlt⟩ := hbx.ends
      obtain ⟨c0, c1, f0, f1, z0, z1⟩ := hd
      have hd' : W2.drew.cell? ⟨B + 1, 0, none⟩ = some (.int .i64 8) ∧ W2.drew.cell? ⟨B + 1, 1, none⟩ = some (.int .i64 12) ∧ W2.drew.frozen? ⟨B, 0, none⟩ = false ∧ W2.drew.frozen? ⟨B, 1, none⟩ = false ∧ W2.drew.cell? ⟨B, 0, none⟩ = some (.int .i64 0) ∧ W2.drew.cell? ⟨B, 1, none⟩ = some (.int .i64 0) := ⟨c0, c1, f0, f1, z0, z1⟩
      obtain ⟨c0', c1', f0', f1', z0', z1'⟩ := hd'
      have HBF := Lib.hid hBf
      clear hBf hbx
      go_wp2_with fail
      refine HS2.out.mono ?_
      rintro e W3 ⟨rfl, hW3⟩
      subst hW3
      clear HS2
      go_wp2_with fail
      go_region
      go_wp2_with fail
      refine bodyPost_ret (v := .tuple #[.int .i64 0, .int .i64 0, .agg #[.int .i64 8, .int .i64 12], .bool false]) (by simp [results, Try.results53, go_sem, p0, p1]) rfl (HeadAs.no HNO.out 0 0 8 12 HBF.out)
    · have hf : plainF l 4 = (valN (l.drop 4), ((4 + digs (l.drop 4) : Nat) : Int)) := by rw [plainF, hok1]; rfl
      have hdl := digs_le (l.drop 4)
      rw [List.length_drop] at hdl
      rw [hf]
      obtain ⟨a2, ha2⟩ : ∃ a2, a2 = 4 + digs (l.drop 4) := ⟨_, rfl⟩
      have hd2 : l.drop a2 = aftN (l.drop 4) := by rw [ha2, aftN, List.drop_drop]
      have hle2 : a2 ≤ l.length := by omega
      rw [← ha2]
      obtain ⟨v1, hv1⟩ : ∃ v1, v1 = valN (l.drop 4) := ⟨_, rfl⟩
      rw [← hv1]
      have HS2 := Lib.hid (HST.out yE a2 W2 (by decide) hle2)
      have HV1 := Lib.hid hv1
      have HD2 := Lib.hid hd2
      clear hf hv1 hd2 ha2 hdl
      go_wp2_with fail
      refine HS2.out.mono ?_
      rintro e W3 ⟨rfl, hW3⟩
      subst hW3
      clear HS2
      cases hp2 : preB yE (aftN (l.drop 4))
      · have hs : startF l yE a2 = -1 := by rw [startF, HD2.out, hp2]; rfl
        have HNO := Lib.hid (headF_no3 hp2)
        rw [hs]
        clear hs hp1 hp2 hok1
        obtain ⟨hd, p0, p1, hBf, hlt⟩ := hbx.ends
        obtain ⟨c0, c1, f0, f1, z0, z1⟩ := hd
        have hd' : W3.drew.cell? ⟨B + 1, 0, none⟩ = some (.int .i64 8) ∧ W3.drew.cell? ⟨B + 1, 1, none⟩ = some (.int .i64 12) ∧ W3.drew.frozen? ⟨B, 0, none⟩ = false ∧ W3.drew.frozen? ⟨B, 1, none⟩ = false ∧ W3.drew.cell? ⟨B, 0, none⟩ = some (.int .i64 0) ∧ W3.drew.cell? ⟨B, 1, none⟩ = some (.int .i64 0) := ⟨c0, c1, f0, f1, z0, z1⟩
        obtain ⟨c0', c1', f0', f1', z0', z1'⟩ := hd'
        have HBF := Lib.hid hBf
        clear hBf hbx
        go_wp2_with fail
        go_region
        go_wp2_with fail
        refine bodyPost_ret (v := .tuple #[.int .i64 0, .int .i64 0, .agg #[.int .i64 8, .int .i64 12], .bool false]) (by simp [results, Try.results53, go_sem, p0, p1]) rfl (HeadAs.no HNO.out 0 0 8 12 HBF.out)
      · have hs : startF l yE a2 = ((a2 + 6 : Nat) : Int) := by rw [startF, HD2.out, hp2]; rfl
        have hle3 : a2 + 6 ≤ l.length := by
          have := (preB_iff.1 hp2).1
          rw [← HD2.out, List.length_drop] at this
          simp [yE] at this
          omega
        rw [hs]
        obtain ⟨a3, ha3⟩ : ∃ a3, a3 = a2 + 6 := ⟨_, rfl⟩
        have hd3 : l.drop a3 = (aftN (l.drop 4)).drop 6 := by rw [ha3, ← HD2.out, List.drop_drop]
        rw [← ha3] at hle3 ⊢
        have HP := Lib.hid (HPL.out a3 W3 hle3)
        have HD3 := Lib.hid hd3
        have h30 : (0 : Int) ≤ (a3 : Int) := by omega
        have h30' : decide ((a3 : Int) < 0) = false := decide_eq_false (by omega)
        clear hs hd3 ha3
        go_wp2_with fail
        refine HP.out.mono ?_
        rintro e W4 ⟨rfl, hb4⟩
        have hbx := hbx.grow hb4
        clear HP hb4
        cases hok2 : okN ((aftN (l.drop 4)).drop 6)
        · have hf : plainF l a3 = (0, -1) := by rw [plainF, HD3.out, hok2]; rfl
          have HNO := Lib.hid (headF_no4 hok2)
          rw [hf]
          clear hf hp1 hp2 hok1 hok2
          obtain ⟨hd, p0, p1, hBf, hlt⟩ := hbx.ends
          obtain ⟨c0, c1, f0, f1, z0, z1⟩ := hd
          have hd' : W4.drew.cell? ⟨B + 1, 0, none⟩ = some (.int .i64 8) ∧ W4.drew.cell? ⟨B + 1, 1, none⟩ = some (.int .i64 12) ∧ W4.drew.frozen? ⟨B, 0, none⟩ = false ∧ W4.drew.frozen? ⟨B, 1, none⟩ = false ∧ W4.drew.cell? ⟨B, 0, none⟩ = some (.int .i64 0) ∧ W4.drew.cell? ⟨B, 1, none⟩ = some (.int .i64 0) := ⟨c0, c1, f0, f1, z0, z1⟩
          obtain ⟨c0', c1', f0', f1', z0', z1'⟩ := hd'
          have HBF := Lib.hid hBf
          clear hBf hbx
          go_wp2_with fail
          go_region
          go_wp2_with fail
          refine bodyPost_ret (v := .tuple #[.int .i64 v1, .int .i64 0, .agg #[.int .i64 8, .int .i64 12], .bool false]) (by simp [results, Try.results53, go_sem, p0, p1]) rfl (HeadAs.no HNO.out v1 0 8 12 HBF.out)
        · have hf : plainF l a3 = (valN ((aftN (l.drop 4)).drop 6), ((a3 + digs ((aftN (l.drop 4)).drop 6) : Nat) : Int)) := by rw [plainF, HD3.out, hok2]; rfl
          have hdl := digs_le ((aftN (l.drop 4)).drop 6)
          rw [← HD3.out, List.length_drop] at hdl
          have hin := headF_in hp1 hok1 hp2 hok2
          rw [hf]
          obtain ⟨a4, ha4⟩ : ∃ a4, a4 = a3 + digs ((aftN (l.drop 4)).drop 6) := ⟨_, rfl⟩
          have hd4 : l.drop a4 = aftN ((aftN (l.drop 4)).drop 6) := by rw [ha4]; show _ = List.drop (digs ((aftN (l.drop 4)).drop 6)) ((aftN (l.drop 4)).drop 6); rw [← HD3.out, List.drop_drop]
          have hle4 : a4 ≤ n := by rw [ha4, ← HD3.out, HN.out]; omega
          obtain ⟨v2, hv2⟩ : ∃ v2, v2 = valN ((aftN (l.drop 4)).drop 6) := ⟨_, rfl⟩
          rw [← ha4, ← hv2]
          rw [← HV1.out, ← hv2, ← hd4] at hin
          have HIN := Lib.hid hin
          have h40 : decide ((a4 : Int) < 0) = false := decide_eq_false (by omega)
          have h41 : decide ((0 : Int) ≤ (a4 : Int)) = true := decide_eq_true (by omega)
          clear hf hdl hin ha4 hd4 hv2 hp1 hp2 hok1 hok2
          by_cases hend : a4 = n
          · have hne : ((a4 : Int) == (n : Int)) = true := by rw [hend]; simp
            have hne' : (a4 == n) = true := by rw [hend]; simp
            have hh : headF l = some ((v1, v2), (8, 12)) := by
              rw [HIN.out, headR, if_pos (by rw [hend, HN.out, List.drop_length])]
              rfl
            have HH := Lib.hid hh
            clear hend hh
            obtain ⟨hd, p0, p1, hBf, hlt⟩ := hbx.ends
            obtain ⟨c0, c1, f0, f1, z0, z1⟩ := hd
            have hd' : W4.drew.cell? ⟨B + 1, 0, none⟩ = some (.int .i64 8) ∧ W4.drew.cell? ⟨B + 1, 1, none⟩ = some (.int .i64 12) ∧ W4.drew.frozen? ⟨B, 0, none⟩ = false ∧ W4.drew.frozen? ⟨B, 1, none⟩ = false ∧ W4.drew.cell? ⟨B, 0, none⟩ = some (.int .i64 0) ∧ W4.drew.cell? ⟨B, 1, none⟩ = some (.int .i64 0) := ⟨c0, c1, f0, f1, z0, z1⟩
            obtain ⟨c0', c1', f0', f1', z0', z1'⟩ := hd'
            have HBF := Lib.hid hBf
            clear hBf hbx
            go_wp2_with fail
            go_region
            go_wp2_with fail
            refine bodyPost_ret (v := .tuple #[.int .i64 v1, .int .i64 v2, .agg #[.int .i64 8, .int .i64 12], .bool true]) (by simp [results, Try.results53, go_sem, p0, p1]) rfl (HeadAs.yes HH.out HBF.out)
          · have hne : ((a4 : Int) == (n : Int)) = false := by simp <;> omega
            have hne' : (a4 == n) = false := by simp <;> omega
            have hnil : l.drop a4 ≠ [] := by
              intro h
              have := congrArg List.length h
              rw [List.length_drop, ← HN.out] at this
              simp at this
              omega
            have HNIL := Lib.hid hnil
            have HS2 := Lib.hid (HST.out rE a4 W4 (by decide) (by rw [← HN.out]; exact hle4))
            clear hnil hend
            go_wp2_with fail
            refine HS2.out.mono ?_
            rintro e W5 ⟨rfl, hW5⟩
            subst hW5
            clear HS2
            cases hp3 : preB rE (l.drop a4)
            · have hs : startF l rE a4 = -1 := by rw [startF, hp3]; rfl
              have hh : headF l = none := by rw [HIN.out, headR, if_neg HNIL.out, if_neg (by rw [hp3]; simp)]; rfl
              have HNO := Lib.hid hh
              rw [hs]
              clear hs hp3 hh
              obtain ⟨hd, p0, p1, hBf, hlt⟩ := hbx.ends
              obtain ⟨c0, c1, f0, f1, z0, z1⟩ := hd
              have hd' : W5.drew.cell? ⟨B + 1, 0, none⟩ = some (.int .i64 8) ∧ W5.drew.cell? ⟨B + 1, 1, none⟩ = some (.int .i64 12) ∧ W5.drew.frozen? ⟨B, 0, none⟩ = false ∧ W5.drew.frozen? ⟨B, 1, none⟩ = false ∧ W5.drew.cell? ⟨B, 0, none⟩ = some (.int .i64 0) ∧ W5.drew.cell? ⟨B, 1, none⟩ = some (.int .i64 0) := ⟨c0, c1, f0, f1, z0, z1⟩
              obtain ⟨c0', c1', f0', f1', z0', z1'⟩ := hd'
              have HBF := Lib.hid hBf
              clear hBf hbx
              go_wp2_with fail
              go_region
              go_wp2_with fail
              refine bodyPost_ret (v := .tuple #[.int .i64 0, .int .i64 0, .agg #[.int .i64 8, .int .i64 12], .bool false]) (by simp [results, Try.results53, go_sem, p0, p1]) rfl (HeadAs.no HNO.out 0 0 8 12 HBF.out)
            · have hs : startF l rE a4 = ((a4 + 9 : Nat) : Int) := by rw [startF, hp3]; rfl
              have hle5 : a4 + 9 ≤ n := by
                have := (preB_iff.1 hp3).1
                rw [List.length_drop, ← HN.out] at this
                simp [rE] at this
                omega
              have hr : headR (l.drop a4) = if (readF (l.drop (a4 + 9))).2 = 0 then some (readF (l.drop (a4 + 9))).1 else none := by
                rw [headR, if_neg HNIL.out, if_pos hp3, List.drop_drop]
              rw [hs]
              obtain ⟨a5, ha5⟩ : ∃ a5, a5 = a4 + 9 := ⟨_, rfl⟩
              rw [← ha5] at hle5 hr ⊢
              have h50 : decide ((a5 : Int) < 0) = false := decide_eq_false (by omega)
              have hrd := HRR.out a5 W5
              unfold ReadAs at hrd
              obtain ⟨⟨⟨x0, x1⟩, er⟩, hF⟩ : ∃ R, R = readF (l.drop a5) := ⟨_, rfl⟩
              rw [← hF] at hrd hr
              have HRD := Lib.hid hrd
              have HHR := Lib.hid hr
              have HBX := Lib.hid hbx
              clear hs hp3 ha5 hrd hF hr hbx
              go_wp2_with fail
              refine HRD.out.mono ?_
              rintro e W6 ⟨rfl, hb6⟩
              have hbx6 := HBX.out.grow hb6
              have g0 : W6.cell? ⟨B + 1, 0, none⟩ = some (.int .i64 8) := Joins.cell_of_block hbx6.b1 0
              have g1 : W6.cell? ⟨B + 1, 1, none⟩ = some (.int .i64 12) := Joins.cell_of_block hbx6.b1 1
              have q0 : W6.frozen? ⟨B + 1, 0, none⟩ = false := Joins.unfrozen_of_block hbx6.b1 0
              have q1 : W6.frozen? ⟨B + 1, 1, none⟩ = false := Joins.unfrozen_of_block hbx6.b1 1
              have hbx7 := hbx6.store x0 x1
              have HBX7 := Lib.hid hbx7
              clear hb6 hbx6 hbx7 HRD HBX
              go_wp2_with fail
              obtain ⟨W7, hW7⟩ : ∃ W7, W7 = (W6.setCell ⟨B + 1, 0, none⟩ (.int .i64 x0)).setCell ⟨B + 1, 1, none⟩ (.int .i64 x1) := ⟨_, rfl⟩
              have hbx := HBX7.out
              rw [← hW7] at hbx ⊢
              clear hW7 g0 g1 q0 q1 HBX7
              by_cases her : er = 0
              · subst her
                have hh : headF l = some ((v1, v2), (x0, x1)) := by rw [HIN.out, HHR.out, if_pos rfl]; rfl
                have HH := Lib.hid hh
                clear hh
                obtain ⟨hd, p0, p1, hBf, hlt⟩ := hbx.ends
                obtain ⟨c0, c1, f0, f1, z0, z1⟩ := hd
                have hd' : W7.drew.cell? ⟨B + 1, 0, none⟩ = some (.int .i64 x0) ∧ W7.drew.cell? ⟨B + 1, 1, none⟩ = some (.int .i64 x1) ∧ W7.drew.frozen? ⟨B, 0, none⟩ = false ∧ W7.drew.frozen? ⟨B, 1, none⟩ = false ∧ W7.drew.cell? ⟨B, 0, none⟩ = some (.int .i64 0) ∧ W7.drew.cell? ⟨B, 1, none⟩ = some (.int .i64 0) := ⟨c0, c1, f0, f1, z0, z1⟩
                obtain ⟨c0', c1', f0', f1', z0', z1'⟩ := hd'
                have HBF := Lib.hid hBf
                clear hBf hbx
                go_wp2_with fail
                go_region
                go_wp2_with fail
                refine bodyPost_ret (v := .tuple #[.int .i64 v1, .int .i64 v2, .agg #[.int .i64 x0, .int .i64 x1], .bool true]) (by simp [results, Try.results53, go_sem, p0, p1]) rfl (HeadAs.yes HH.out HBF.out)
              · have hz : (er == 0) = false := by simp [her]
                have hh : headF l = none := by rw [HIN.out, HHR.out, if_neg her]; rfl
                have HNO := Lib.hid hh
                clear hh
                obtain ⟨hd, p0, p1, hBf, hlt⟩ := hbx.ends
                obtain ⟨c0, c1, f0, f1, z0, z1⟩ := hd
                have hd' : W7.drew.cell? ⟨B + 1, 0, none⟩ = some (.int .i64 x0) ∧ W7.drew.cell? ⟨B + 1, 1, none⟩ = some (.int .i64 x1) ∧ W7.drew.frozen? ⟨B, 0, none⟩ = false ∧ W7.drew.frozen? ⟨B, 1, none⟩ = false ∧ W7.drew.cell? ⟨B, 0, none⟩ = some (.int .i64 0) ∧ W7.drew.cell? ⟨B, 1, none⟩ = some (.int .i64 0) := ⟨c0, c1, f0, f1, z0, z1⟩
                obtain ⟨c0', c1', f0', f1', z0', z1'⟩ := hd'
                have HBF := Lib.hid hBf
                clear hBf hbx
                go_wp2_with fail
                go_region
                go_wp2_with fail
                refine bodyPost_ret (v := .tuple #[.int .i64 v1, .int .i64 v2, .agg #[.int .i64 x0, .int .i64 x1], .bool false]) (by simp [results, Try.results53, go_sem, p0, p1]) rfl (HeadAs.no HNO.out v1 v2 x0 x1 HBF.out)
end Go.Proofs.Ytffgpjkkgndkiaa
