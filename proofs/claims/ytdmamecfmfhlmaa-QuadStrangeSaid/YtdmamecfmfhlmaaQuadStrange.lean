/-
  For every number, a tenant is told that squares that are not its own are none, and of squares of level 0 that they are of level 0; no condition.
-/
import Derived.Test.YtdmamecfmfhlmaaQMade
import Derived.Test.YtdmamecfmfhlmaaQStrange
import Derived.Test.YtdmamecfmfhlmaaQWrap
namespace Go.Proofs.Ytdmamecfmfhlmaa
set_option maxRecDepth 100000
open Go.RowKit

theorem stranger {n t s : Nat} {S : ArS} (h : Grew t (newS n) S) (hs : s ≠ t) (h64 : s < 64) {root : Int} (hr : 2 ≤ root) : levelA S (s : Int) root = (0, 6) := by
  refine levelA_no ?_
  cases ho : ownsA S.L s root 0 with
  | false => rfl
  | true =>
    obtain ⟨i, rfl⟩ : ∃ i : Nat, root = i := ⟨root.toNat, by omega⟩
    obtain ⟨x, h1, _, h3⟩ := owns_at ho (by omega)
    obtain ⟨y, h4, _⟩ := h.others hs h1 h3
    rw [newS_at] at h4; cases h4
theorem base_level {S : ArS} (ok : ArOk S) {t : Nat} (ht : t < 64) {id : Int} (h : id = 0 ∨ id = 1) : levelA S (t : Int) id = (0, 0) := by
  rw [levelA_yes ht (ownsA_base h)]
  unfold lvA
  rcases h with rfl | rfl
  · show (match atL S.L 0 with | none => 0 | some x => x.lv, (0 : Int)) = _
    rw [ok.nil0]
  · show (match atL S.L 1 with | none => 0 | some x => x.lv, (0 : Int)) = _
    rw [ok.nil1]
set_option maxHeartbeats 4000000 in
set_option maxRecDepth 100000 in
theorem law_strange (root lev : Int) (w : World) : Calls Try.prog 8 #[.int .i64 root, .int .i64 lev] w fun e w' => e = .returned (.bool true) ∧ Below w.heap.size w w' := by
  have hs : Sl w 2 16 none ([] : CellL).length 0 (([] : CellL).flatMap encCell) := ⟨rfl, Nat.le_refl _, by simp [maxLen], fun _ => rfl, by show 0 * 16 ≤ _; omega, fun h => by simp at h⟩
  have HM := Lib.hid (made_ok [] none 0 w hs (by decide) (by simp))
  rw [show ([] : CellL).length = 0 from rfl] at HM
  clear hs
  obtain ⟨R, hR⟩ : ∃ R : Int, R = if root < 2 then 100000 else root := ⟨_, rfl⟩
  have hR2 : 2 ≤ R := by rw [hR]; split <;> omega
  have HR2 := Lib.hid hR2
  clear hR2
  by_cases hlow : root < 2
  · have t1 : decide (root < 2) = true := decide_eq_true hlow
    have hRe : R = 100000 := by rw [hR, if_pos hlow]
    clear hR hlow
    go_enter Try.func8, Try.ntmps8
    go_wp2_with fail
    with_reducible refine HM.out.mono ?_
    rintro e w1 ⟨b, lv, r, S, F, rfl, _, _, hI, hF, hB, hG, hW, _, _⟩
    have hl : levelA S ((4 : Nat) : Int) 100000 = (0, 6) := stranger hG (by omega) (by omega) (by omega)
    have hl0 : levelA S ((4 : Nat) : Int) 0 = (0, 0) := base_level hI.ok (by omega) (.inl rfl)
    have hl1 : levelA S ((4 : Nat) : Int) 1 = (0, 0) := base_level hI.ok (by omega) (.inr rfl)
    have HL := Lib.hid hl
    have HL0 := Lib.hid hl0
    have HL1 := Lib.hid hl1
    have HI1 := Lib.hid hI
    have HB1 := Lib.hid hB
    have HF1 := Lib.hid hF
    have HW := Lib.hid hW
    clear hl hl0 hl1 hI hF hB hG hW
    have HC1 := Lib.hid (cells_err b 4 S F 100000 6 w1 HI1.out HL.out (by omega))
    rw [show ((4 : Nat) : Int) = (4 : Int) from rfl] at HC1
    go_wp2_with fail
    with_reducible refine HC1.out.mono ?_
    rintro e w2 ⟨rfl, hb2⟩
    have HI2 := Lib.hid (HI1.out.below hb2)
    have HB2 := Lib.hid (HB1.out.trans (hb2.mono HB1.out.size))
    clear hb2
    have HC2 := Lib.hid (count_err b 4 S F 100000 6 w2 HI2.out HL.out (by omega))
    rw [show ((4 : Nat) : Int) = (4 : Int) from rfl] at HC2
    go_wp2_with fail
    with_reducible refine HC2.out.mono ?_
    rintro e w3 ⟨rfl, hb3⟩
    have HI3 := Lib.hid (HI2.out.below hb3)
    have HB3 := Lib.hid (HB2.out.trans (hb3.mono HB2.out.size))
    clear hb3
    have HC3 := Lib.hid (box_err b 4 S F 100000 6 w3 HI3.out HL.out (by omega))
    rw [show ((4 : Nat) : Int) = (4 : Int) from rfl] at HC3
    go_wp2_with fail
    with_reducible refine HC3.out.mono ?_
    rintro e w4 ⟨rfl, hb4⟩
    obtain ⟨X4, hX4⟩ : ∃ X, X = w4.alloc (.cells #[.int .i64 0, .int .i64 0, .int .i64 0, .int .i64 0] 44 (0, 0)) := ⟨_, rfl⟩
    have hbx : Below w4.heap.size w4 X4 := by rw [hX4]; exact (Below.refl _ _).alloc (Nat.le_refl _) _
    have HI4 := Lib.hid ((HI3.out.below hb4).below hbx)
    have HB4 := Lib.hid ((HB3.out.trans (hb4.mono HB3.out.size)).trans (hbx.mono (Nat.le_trans HB3.out.size hb4.size)))
    have HX4 := Lib.hid hX4
    clear hb4 hbx hX4
    have HC4 := Lib.hid (wrap_err b 4 S F 100000 6 0 (.leaf false) (.leaf false) (.leaf false) (.leaf false) X4 HI4.out HW.out (by omega) HL.out (by omega) (by omega))
    rw [show ((4 : Nat) : Int) = (4 : Int) from rfl] at HC4
    go_upto_region 9 with fail
    rw [← HX4.out]
    go_wp2_with fail
    with_reducible refine HC4.out.mono ?_
    rintro e w5 ⟨r5, er5, S5, F5, rfl, _, hres5, _, hz5, hI5, hF5, hK5⟩
    have e5 := hres5.stay (by omega)
    have s5 := hres5.idle (by omega)
    subst e5
    subst s5
    have z5 := hz5 (by omega)
    subst z5
    have HI5 := Lib.hid hI5
    have HB5 := Lib.hid (HB4.out.trans (hK5.toBelow HF1.out HB4.out.size))
    have HF5 := Lib.hid (show ∀ i, F5 i → w.heap.size ≤ i from fun i hi => (hF5 i hi).elim (HF1.out i) (fun h => Nat.le_trans HB4.out.size h))
    clear hres5 hz5 hI5 hF5 hK5
    have HC5 := Lib.hid (peel_err b 4 S5 F5 100000 6 w5 HI5.out HL.out (by omega))
    rw [show ((4 : Nat) : Int) = (4 : Int) from rfl] at HC5
    go_wp2_with fail
    with_reducible refine HC5.out.mono ?_
    rintro e w6 ⟨rfl, hb6⟩
    have HI6 := Lib.hid (HI5.out.below hb6)
    have HB6 := Lib.hid (HB5.out.trans (hb6.mono HB5.out.size))
    clear hb6
    have HC6 := Lib.hid (put_err b 4 S5 F5 100000 6 w6 0 0 true HI6.out HL.out (by omega))
    rw [show ((4 : Nat) : Int) = (4 : Int) from rfl] at HC6
    go_wp2_with fail
    with_reducible refine HC6.out.mono ?_
    rintro e w7 ⟨rfl, hb7⟩
    have HI7 := Lib.hid (HI6.out.below hb7)
    have HB7 := Lib.hid (HB6.out.trans (hb7.mono HB6.out.size))
    clear hb7
    have HC7 := Lib.hid (cells_flat b 4 S5 F5 1 w7 HI7.out HL1.out)
    rw [show ((4 : Nat) : Int) = (4 : Int) from rfl] at HC7
    go_wp2_with fail
    with_reducible refine HC7.out.mono ?_
    rintro e w8 ⟨rfl, hb8⟩
    have HI8 := Lib.hid (HI7.out.below hb8)
    have HB8 := Lib.hid (HB7.out.trans (hb8.mono HB7.out.size))
    clear hb8
    have HC8 := Lib.hid (peel_flat b 4 S5 F5 1 w8 HI8.out HL1.out)
    rw [show ((4 : Nat) : Int) = (4 : Int) from rfl] at HC8
    go_wp2_with fail
    with_reducible refine HC8.out.mono ?_
    rintro e w9 ⟨rfl, hb9⟩
    have HI9 := Lib.hid (HI8.out.below hb9)
    have HB9 := Lib.hid (HB8.out.trans (hb9.mono HB8.out.size))
    clear hb9
    have HC9 := Lib.hid (wrap_flat b 4 S5 F5 0 w9 HI9.out HL0.out)
    rw [show ((4 : Nat) : Int) = (4 : Int) from rfl] at HC9
    go_wp2_with fail
    with_reducible refine HC9.out.mono ?_
    rintro e w10 ⟨rfl, hb10⟩
    have HB10 := Lib.hid (HB9.out.trans (hb10.mono HB9.out.size))
    clear hb10
    go_wp2_with fail
    go_ret
    exact ⟨rfl, HB10.out⟩
  · have t1 : decide (root < 2) = false := decide_eq_false hlow
    have hRe : R = root := by rw [hR, if_neg hlow]
    clear hR hlow
    go_enter Try.func8, Try.ntmps8
    go_wp2_with fail
    with_reducible refine HM.out.mono ?_
    rintro e w1 ⟨b, lv, r, S, F, rfl, _, _, hI, hF, hB, hG, hW, _, _⟩
    have hl : levelA S ((4 : Nat) : Int) root = (0, 6) := stranger hG (by omega) (by omega) (by have := HR2.out; omega)
    have hl0 : levelA S ((4 : Nat) : Int) 0 = (0, 0) := base_level hI.ok (by omega) (.inl rfl)
    have hl1 : levelA S ((4 : Nat) : Int) 1 = (0, 0) := base_level hI.ok (by omega) (.inr rfl)
    have HL := Lib.hid hl
    have HL0 := Lib.hid hl0
    have HL1 := Lib.hid hl1
    have HI1 := Lib.hid hI
    have HB1 := Lib.hid hB
    have HF1 := Lib.hid hF
    have HW := Lib.hid hW
    clear hl hl0 hl1 hI hF hB hG hW
    have HC1 := Lib.hid (cells_err b 4 S F root 6 w1 HI1.out HL.out (by omega))
    rw [show ((4 : Nat) : Int) = (4 : Int) from rfl] at HC1
    go_wp2_with fail
    with_reducible refine HC1.out.mono ?_
    rintro e w2 ⟨rfl, hb2⟩
    have HI2 := Lib.hid (HI1.out.below hb2)
    have HB2 := Lib.hid (HB1.out.trans (hb2.mono HB1.out.size))
    clear hb2
    have HC2 := Lib.hid (count_err b 4 S F root 6 w2 HI2.out HL.out (by omega))
    rw [show ((4 : Nat) : Int) = (4 : Int) from rfl] at HC2
    go_wp2_with fail
    with_reducible refine HC2.out.mono ?_
    rintro e w3 ⟨rfl, hb3⟩
    have HI3 := Lib.hid (HI2.out.below hb3)
    have HB3 := Lib.hid (HB2.out.trans (hb3.mono HB2.out.size))
    clear hb3
    have HC3 := Lib.hid (box_err b 4 S F root 6 w3 HI3.out HL.out (by omega))
    rw [show ((4 : Nat) : Int) = (4 : Int) from rfl] at HC3
    go_wp2_with fail
    with_reducible refine HC3.out.mono ?_
    rintro e w4 ⟨rfl, hb4⟩
    obtain ⟨X4, hX4⟩ : ∃ X, X = w4.alloc (.cells #[.int .i64 0, .int .i64 0, .int .i64 0, .int .i64 0] 44 (0, 0)) := ⟨_, rfl⟩
    have hbx : Below w4.heap.size w4 X4 := by rw [hX4]; exact (Below.refl _ _).alloc (Nat.le_refl _) _
    have HI4 := Lib.hid ((HI3.out.below hb4).below hbx)
    have HB4 := Lib.hid ((HB3.out.trans (hb4.mono HB3.out.size)).trans (hbx.mono (Nat.le_trans HB3.out.size hb4.size)))
    have HX4 := Lib.hid hX4
    clear hb4 hbx hX4
    have HC4 := Lib.hid (wrap_err b 4 S F root 6 0 (.leaf false) (.leaf false) (.leaf false) (.leaf false) X4 HI4.out HW.out (by omega) HL.out (by omega) (by omega))
    rw [show ((4 : Nat) : Int) = (4 : Int) from rfl] at HC4
    go_upto_region 9 with fail
    rw [← HX4.out]
    go_wp2_with fail
    with_reducible refine HC4.out.mono ?_
    rintro e w5 ⟨r5, er5, S5, F5, rfl, _, hres5, _, hz5, hI5, hF5, hK5⟩
    have e5 := hres5.stay (by omega)
    have s5 := hres5.idle (by omega)
    subst e5
    subst s5
    have z5 := hz5 (by omega)
    subst z5
    have HI5 := Lib.hid hI5
    have HB5 := Lib.hid (HB4.out.trans (hK5.toBelow HF1.out HB4.out.size))
    have HF5 := Lib.hid (show ∀ i, F5 i → w.heap.size ≤ i from fun i hi => (hF5 i hi).elim (HF1.out i) (fun h => Nat.le_trans HB4.out.size h))
    clear hres5 hz5 hI5 hF5 hK5
    have HC5 := Lib.hid (peel_err b 4 S5 F5 root 6 w5 HI5.out HL.out (by omega))
    rw [show ((4 : Nat) : Int) = (4 : Int) from rfl] at HC5
    go_wp2_with fail
    with_reducible refine HC5.out.mono ?_
    rintro e w6 ⟨rfl, hb6⟩
    have HI6 := Lib.hid (HI5.out.below hb6)
    have HB6 := Lib.hid (HB5.out.trans (hb6.mono HB5.out.size))
    clear hb6
    have HC6 := Lib.hid (put_err b 4 S5 F5 root 6 w6 0 0 true HI6.out HL.out (by omega))
    rw [show ((4 : Nat) : Int) = (4 : Int) from rfl] at HC6
    go_wp2_with fail
    with_reducible refine HC6.out.mono ?_
    rintro e w7 ⟨rfl, hb7⟩
    have HI7 := Lib.hid (HI6.out.below hb7)
    have HB7 := Lib.hid (HB6.out.trans (hb7.mono HB6.out.size))
    clear hb7
    have HC7 := Lib.hid (cells_flat b 4 S5 F5 1 w7 HI7.out HL1.out)
    rw [show ((4 : Nat) : Int) = (4 : Int) from rfl] at HC7
    go_wp2_with fail
    with_reducible refine HC7.out.mono ?_
    rintro e w8 ⟨rfl, hb8⟩
    have HI8 := Lib.hid (HI7.out.below hb8)
    have HB8 := Lib.hid (HB7.out.trans (hb8.mono HB7.out.size))
    clear hb8
    have HC8 := Lib.hid (peel_flat b 4 S5 F5 1 w8 HI8.out HL1.out)
    rw [show ((4 : Nat) : Int) = (4 : Int) from rfl] at HC8
    go_wp2_with fail
    with_reducible refine HC8.out.mono ?_
    rintro e w9 ⟨rfl, hb9⟩
    have HI9 := Lib.hid (HI8.out.below hb9)
    have HB9 := Lib.hid (HB8.out.trans (hb9.mono HB8.out.size))
    clear hb9
    have HC9 := Lib.hid (wrap_flat b 4 S5 F5 0 w9 HI9.out HL0.out)
    rw [show ((4 : Nat) : Int) = (4 : Int) from rfl] at HC9
    go_wp2_with fail
    with_reducible refine HC9.out.mono ?_
    rintro e w10 ⟨rfl, hb10⟩
    have HB10 := Lib.hid (HB9.out.trans (hb10.mono HB9.out.size))
    clear hb10
    go_wp2_with fail
    go_ret
    exact ⟨rfl, HB10.out⟩
section
open Go.ChangeShapes Go.WideShapes Go.ChangeAt
set_option maxRecDepth 100000 in
theorem lifted_quadStrange (os : Os) (started : os.Started) (H : Type) (enc : TypeId × Value → H)
    (walk : ∀ (W : World) (v0 : Value) (v1 : Value), Is_int W v0 → Is_int W v1 → Calls Try.prog 8 #[v0, v1] W fun e w' => e = .returned (.bool true) ∧ Below W.heap.size W w') :
    ReturnsInHanded {} Try.checked os 8 .any (Rows.quadStrangeSpec.pre6 enc Try.prog Try.f8 Rows.quadStrangeRow.domain false) (Rows.quadStrangeSpec.post enc Try.prog Try.f8 false true false false) := by
  refine returnsInHanded_of_change_sized (C := Try.checked) own started (by kernel_rfl) Try.func8
    (ChangeSpec.witness6 (enc := enc) (C := Try.checked) false ⟨#[], #[.int .i64 0, .int .i64 0], []⟩ 8 (by kernel_rfl) (by kernel_rfl) (by kernel_rfl) (by kernel_rfl)) ?_
  intro W base args ds gs before hval0 hW hcnd hsz0 _
  have hval : ∀ (j : Nat) t v, Try.f8.params[j]? = some t → args[j]? = some v → Value.okWide Try.prog W .any base t v := hval0
  have hW' := hW
  obtain ⟨p, q, hA0, hV, rfl, hfz, hnd⟩ := hW
  have hA : DataW.TrodAll enc Try.prog W 0 (fun _ => true) true Try.f8.params.toList args.toList ds p := hA0
  rw [Try.params8] at hA hval
  obtain ⟨rfl, rfl⟩ := trodVars_none hV
  have hB := hA
  obtain ⟨v0, vs0, d0, ds0, p0, q0, hargs, rfl, rfl, h0, r0⟩ := trodAll_cons hA
  obtain ⟨v1, vs1, d1, ds1, p1, q1, rfl, rfl, rfl, h1, r1⟩ := trodAll_cons r0
  obtain ⟨rfl, rfl, rfl⟩ := trodAll_nil r1
  obtain rfl : args = #[v0, v1] := by cases args; simp_all
  have hsz : (DataW.weightsEach Try.prog [3, 3] [d0, d1]).all (· ≤ reachBytes) = true := hsz0
  have i0 := open_int (hval 0 3 v0 rfl rfl) h0 (weights_le hsz 0 rfl rfl)
  have i1 := open_int (hval 1 3 v1 rfl rfl) h1 (weights_le hsz 1 rfl rfl)
  refine (walk W v0 v1 i0 i1).mono fun e W' ⟨he, bel⟩ => ?_
  subst he
  exact ⟨_, rfl, _, _, _, [], _, [], hW', trodAll_mk1 (shut_bool Try.underlying4 _), trodAll_below laidOut (by kernel_rfl) hB bel, rfl, bel.frame _, fun h => by cases h⟩

theorem over_quadStrange (walk : ∀ (W : World) (v0 : Value) (v1 : Value), Is_int W v0 → Is_int W v1 → Calls Try.prog 8 #[v0, v1] W fun e w' => e = .returned (.bool true) ∧ Below W.heap.size W w') :
    Rows.quadStrangeRow.holds Try.pinned (OpenSpec.ofChange Rows.quadStrangeSpec) :=
  OpenClaim.holds_of_wide 8 Try.f8 rfl rfl rfl rfl rfl rfl rfl ⟨rfl, rfl, rfl, rfl, rfl⟩ rfl rfl rfl rfl rfl (by kernel_rfl) Try.func8 (by kernel_rfl)
    (of_decide_eq_true (by kernel_rfl)) (by unfold Func.isWrapper; first | (rw [if_pos (by decide +kernel)]; kernel_rfl) | (rw [if_neg (by decide +kernel)]; exact ⟨rfl, rfl⟩))
    (fun os started H enc _ => lifted_quadStrange os started H enc walk)
end
theorem quadStrange_proved : Rows.QuadStrangeSaid := over_quadStrange fun W _ _ ⟨n, e0, _⟩ ⟨m, e1, _⟩ => by
  subst e0; subst e1
  exact law_strange n m W
end Go.Proofs.Ytdmamecfmfhlmaa
