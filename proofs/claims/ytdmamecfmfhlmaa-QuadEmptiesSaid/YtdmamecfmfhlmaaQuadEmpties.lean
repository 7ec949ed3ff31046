/-
  For every level, Empty makes a square of that level in which nothing lives, or refuses it; no condition.
-/
import Derived.Test.YtdmamecfmfhlmaaQMade
import Derived.Test.YtdmamecfmfhlmaaQCountF
namespace Go.Proofs.Ytdmamecfmfhlmaa
set_option maxRecDepth 100000
open Go.RowKit

theorem cnt_empty : ∀ n, cnt (emptyT n) = 0
  | 0 => rfl
  | n + 1 => by
    show cnt (emptyT n) + cnt (emptyT n) + cnt (emptyT n) + cnt (emptyT n) = 0
    rw [cnt_empty n]
theorem qempty_bad (b t : Nat) (level : Int) (w : World) (h : level < 0 ∨ 44 < level) : Calls Try.prog 11 #[.pointer (some ⟨b, 0, none⟩), .int .i64 t, .int .i64 level] w fun e w' => e = .returned (.tuple #[.int .i64 0, .int .i64 8]) ∧ w' = w := by
  by_cases h0 : level < 0
  · have t1 : decide (level < 0) = true := decide_eq_true h0
    clear h
    go_enter Try.func11, Try.ntmps11
    go_wp2_with fail
    go_ret2
    exact ⟨rfl, rfl⟩
  · have t1 : decide (level < 0) = false := decide_eq_false h0
    have t2 : decide (level > 44) = true := decide_eq_true (by omega)
    have t3 : decide (44 < level) = true := decide_eq_true (by omega)
    clear h
    go_enter Try.func11, Try.ntmps11
    go_wp2_with fail
    go_ret2
    exact ⟨rfl, rfl⟩
theorem quo_grew {n t s : Nat} {S : ArS} (h : Grew s (newS n) S) (ht : t < 64) : S.quo t = n ∧ S.room = n := by
  have hr := h.room
  refine ⟨?_, hr.1⟩
  have : S.quo t = (newS n).quo t := by unfold ArS.quo; rw [hr.2]
  rw [this, newS_quo n ht]
set_option maxHeartbeats 2000000 in
theorem law_quadEmpties (level : Int) (w : World) : Calls Try.prog 3 #[.int .i64 level] w fun e w' => e = .returned (.bool true) ∧ Below w.heap.size w w' := by
  have hs : Sl w 2 16 none ([] : CellL).length 0 (([] : CellL).flatMap encCell) := ⟨rfl, Nat.le_refl _, by simp [maxLen], fun _ => rfl, by show 0 * 16 ≤ _; omega, fun h => by simp at h⟩
  have HM := Lib.hid (made_ok [] none 0 w hs (by decide) (by simp))
  rw [show ([] : CellL).length = 0 from rfl] at HM
  clear hs
  by_cases hin : 0 ≤ level ∧ level ≤ 44
  · obtain ⟨lv, rfl⟩ : ∃ lv : Nat, level = lv := ⟨level.toNat, by omega⟩
    have hlv : lv ≤ 44 := by omega
    have t1 : decide ((lv : Int) < 0) = false := decide_eq_false (by omega)
    have t2 : decide ((lv : Int) > 44) = false := decide_eq_false (by omega)
    have t3 : decide (44 < (lv : Int)) = false := decide_eq_false (by omega)
    have t4 : decide (44 < lv) = false := decide_eq_false (by omega)
    clear hin
    go_enter Try.func3, Try.ntmps3
    go_wp2_with fail
    with_reducible refine HM.out.mono ?_
    rintro e w1 ⟨b, lev, r, S, F, rfl, hlev, hr, hI, hF, hB, hG, hW, hden, hlive⟩
    have hq := quo_grew hG (t := 5) (by omega)
    have hm5 := miss_le S.L 5
    have hbud : Bud 5 S (0 + 0) := by
      have h0 : (tidyF []).1.length = 0 := by decide
      rw [h0] at hlive
      refine ⟨by rw [hq.2]; omega, by rw [hq.1]; omega⟩
    have HE := Lib.hid (qempty_any b 5 S F lv w1 hI hW (by omega) hlv)
    rw [show ((5 : Nat) : Int) = (5 : Int) from rfl] at HE
    have HBUD := Lib.hid hbud
    have HB := Lib.hid hB
    have HF := Lib.hid hF
    clear hlev hr hI hF hB hG hW hden hlive hq hm5 hbud
    go_wp2_with fail
    with_reducible refine HE.out.mono ?_
    rintro e w2 ⟨r2, er, S2, F2, rfl, hr2, hres, hden2, _, hI2, hF2, hK2⟩
    obtain ⟨her, _⟩ := hres.bud 0 HBUD.out rfl
    subst her
    have hd2 := hden2 rfl
    have HL := Lib.hid (level_any b S2 F2 ((5 : Nat) : Int) r2 w2 hI2)
    rw [hd2.levelA hI2.ok (by omega)] at HL
    rw [show ((5 : Nat) : Int) = (5 : Int) from rfl] at HL
    have HC := Lib.hid (qcount_any b 5 S2 F2 lv (emptyT lv) r2 w2 hI2 (by omega) hd2 (by rw [cnt_empty]; exact Nat.zero_le _))
    rw [cnt_empty, show ((5 : Nat) : Int) = (5 : Int) from rfl, show ((0 : Nat) : Int) = (0 : Int) from rfl] at HC
    have HK := Lib.hid (show Below w.heap.size w w2 from HB.out.trans (hK2.toBelow HF.out HB.out.size))
    clear hr2 hres hden2 hI2 hF2 hK2 hd2
    go_wp2_with fail
    with_reducible refine HL.out.mono ?_
    rintro e w3 ⟨rfl, rfl⟩
    go_wp2_with fail
    with_reducible refine HC.out.mono ?_
    rintro e w4 ⟨rfl, hB4⟩
    have HB4 := Lib.hid hB4
    clear hB4
    go_wp2_with fail
    go_ret
    exact ⟨rfl, HK.out.trans (HB4.out.mono HK.out.size)⟩
  · have hout : level < 0 ∨ 44 < level := by omega
    clear hin
    go_enter Try.func3, Try.ntmps3
    go_wp2_with fail
    with_reducible refine HM.out.mono ?_
    rintro e w1 ⟨b, lev, r, S, F, rfl, hlev, hr, hI, hF, hB, hG, hW, hden, hlive⟩
    have HB := Lib.hid hB
    have HE := Lib.hid (qempty_bad b 5 level w1 hout)
    rw [show ((5 : Nat) : Int) = (5 : Int) from rfl] at HE
    clear hlev hr hI hF hB hG hW hden hlive
    go_wp2_with fail
    with_reducible refine HE.out.mono ?_
    rintro e w2 ⟨rfl, rfl⟩
    rcases hout with h0 | h0
    · have t1 : decide (level < 0) = true := decide_eq_true h0
      go_wp2_with fail
      go_ret
      exact ⟨rfl, HB.out⟩
    · have t1 : decide (level < 0) = false := decide_eq_false (by omega)
      have t2 : decide (level > 44) = true := decide_eq_true (by omega)
      have t3 : decide (44 < level) = true := decide_eq_true (by omega)
      go_wp2_with fail
      go_ret
      exact ⟨rfl, HB.out⟩
section
open Go.ChangeShapes Go.WideShapes Go.ChangeAt
set_option maxRecDepth 100000 in
theorem lifted_quadEmpties (os : Os) (started : os.Started) (H : Type) (enc : TypeId × Value → H)
    (walk : ∀ (W : World) (v0 : Value), Is_int W v0 → Calls Try.prog 3 #[v0] W fun e w' => e = .returned (.bool true) ∧ Below W.heap.size W w') :
    ReturnsInHanded {} Try.checked os 3 .any (Rows.quadEmptiesSpec.pre6 enc Try.prog Try.f3 Rows.quadEmptiesRow.domain false) (Rows.quadEmptiesSpec.post enc Try.prog Try.f3 false true false false) := by
  refine returnsInHanded_of_change_sized (C := Try.checked) own started (by kernel_rfl) Try.func3
    (ChangeSpec.witness6 (enc := enc) (C := Try.checked) false ⟨#[], #[.int .i64 0], []⟩ 8 (by kernel_rfl) (by kernel_rfl) (by kernel_rfl) (by kernel_rfl)) ?_
  intro W base args ds gs before hval0 hW hcnd hsz0 _
  have hval : ∀ (j : Nat) t v, Try.f3.params[j]? = some t → args[j]? = some v → Value.okWide Try.prog W .any base t v := hval0
  have hW' := hW
  obtain ⟨p, q, hA0, hV, rfl, hfz, hnd⟩ := hW
  have hA : DataW.TrodAll enc Try.prog W 0 (fun _ => true) true Try.f3.params.toList args.toList ds p := hA0
  rw [Try.params3] at hA hval
  obtain ⟨rfl, rfl⟩ := trodVars_none hV
  have hB := hA
  obtain ⟨v0, vs0, d0, ds0, p0, q0, hargs, rfl, rfl, h0, r0⟩ := trodAll_cons hA
  obtain ⟨rfl, rfl, rfl⟩ := trodAll_nil r0
  obtain rfl : args = #[v0] := by cases args; simp_all
  have hsz : (DataW.weightsEach Try.prog [3] [d0]).all (· ≤ reachBytes) = true := hsz0
  have i0 := open_int (hval 0 3 v0 rfl rfl) h0 (weights_le hsz 0 rfl rfl)
  refine (walk W v0 i0).mono fun e W' ⟨he, bel⟩ => ?_
  subst he
  exact ⟨_, rfl, _, _, _, [], _, [], hW', trodAll_mk1 (shut_bool Try.underlying4 _), trodAll_below laidOut (by kernel_rfl) hB bel, rfl, bel.frame _, fun h => by cases h⟩

theorem over_quadEmpties (walk : ∀ (W : World) (v0 : Value), Is_int W v0 → Calls Try.prog 3 #[v0] W fun e w' => e = .returned (.bool true) ∧ Below W.heap.size W w') :
    Rows.quadEmptiesRow.holds Try.pinned (OpenSpec.ofChange Rows.quadEmptiesSpec) :=
  OpenClaim.holds_of_wide 3 Try.f3 rfl rfl rfl rfl rfl rfl rfl ⟨rfl, rfl, rfl, rfl, rfl⟩ rfl rfl rfl rfl rfl (by kernel_rfl) Try.func3 (by kernel_rfl)
    (of_decide_eq_true (by kernel_rfl)) (by unfold Func.isWrapper; first | (rw [if_pos (by decide +kernel)]; kernel_rfl) | (rw [if_neg (by decide +kernel)]; exact ⟨rfl, rfl⟩))
    (fun os started H enc _ => lifted_quadEmpties os started H enc walk)
end
theorem quadEmpties_proved : Rows.QuadEmptiesSaid := over_quadEmpties fun W _ ⟨n, e0, _⟩ => by
  subst e0
  exact law_quadEmpties n W
end Go.Proofs.Ytdmamecfmfhlmaa
