/-
  For all rules, lists of cells (of which the first 60 count) and numbers, rule.Run answers what the document's Run answers; no condition.
-/
import Derived.Test.YtffgpjkkgndkiaaRuns
import Derived.Test.YtffgpjkkgndkiaaLifeRod
namespace Go.Proofs.Ytffgpjkkgndkiaa
set_option maxRecDepth 100000
open Go.RowKit

theorem sl_take {w : World} {a : Option Addr} {cap : Nat} {zs : List (Int × Int)} (h : Sl w 2 16 a zs.length cap (zs.flatMap encCell)) (m : Nat) (hm : m ≤ zs.length) : Sl w 2 16 a m cap ((zs.take m).flatMap encCell) where
  len := by rw [flat_len, List.length_take]; congr 1; omega
  room := Nat.le_trans hm h.room
  fits := h.fits
  nil := h.nil
  wide := Nat.le_trans (Nat.mul_le_mul_right _ hm) h.wide
  row := fun h0 => by
    obtain ⟨b, o, e, hr⟩ := h.row (by omega)
    refine ⟨b, o, e, fun j u hu => hr j u ?_⟩
    have he : zs.flatMap encCell = (zs.take m).flatMap encCell ++ (zs.drop m).flatMap encCell := by rw [← List.flatMap_append, List.take_append_drop]
    rw [he, List.getElem?_append_left (List.getElem?_eq_some_iff.1 hu).1]
    exact hu
theorem ran_of {w w' : World} {b l : Int} {zs : List (Int × Int)} {n : Int} {e : Ending} {r : List (Int × Int)} {er : Int} (hr : (r, er) = ranF b l zs n) (h : Ran w b l zs n e w') :
    ∃ a c, e = .returned (.tuple #[.slice a r.length c, .int .i64 er]) ∧ Below w.heap.size w w' ∧ Tight w.heap.size w' (.slice a r.length c) r := by
  obtain ⟨v, he, hb, ht⟩ := h
  rw [← hr] at he ht
  obtain ⟨a, c, rfl, _, _⟩ := ht.form
  exact ⟨a, c, he, hb, ht⟩
theorem ranF_rod : ranF 8 12 rodL 2 = ([(0, 0), (1, 0), (2, 0)], 0) := by kernel_rfl
set_option maxHeartbeats 4000000 in
theorem law_runs (rb rl : Int) (zs : List (Int × Int)) (k : Int) (a : Option Addr) (cap : Nat) (w : World) (hs : Sl w 2 16 a zs.length cap (zs.flatMap encCell)) :
    Calls Try.prog 10 #[.agg #[.int .i64 rb, .int .i64 rl], .slice a zs.length cap, .int .i64 k] w fun e w' => e = .returned (.bool true) ∧ Below w.heap.size w w' := by
  have hwide := hs.wide
  have hroom := hs.room
  have hfits := hs.fits
  have hrow : 60 < zs.length → ∃ b o, a = some ⟨b, o, none⟩ := fun h => by obtain ⟨b, o, e, _⟩ := hs.row (by omega); exact ⟨b, o, e⟩
  obtain ⟨ys, m, hcase, hyl, hsl⟩ : ∃ (ys : List (Int × Int)) (m : Nat), ((60 < zs.length ∧ m = 60) ∨ (¬ 60 < zs.length ∧ m = zs.length)) ∧ ys.length = m ∧ Sl w 2 16 a m cap (ys.flatMap encCell) := by
    by_cases h : 60 < zs.length
    · exact ⟨zs.take 60, 60, .inl ⟨h, rfl⟩, by rw [List.length_take]; omega, sl_take hs 60 (by omega)⟩
    · exact ⟨zs, zs.length, .inr ⟨h, rfl⟩, rfl, hs⟩
  obtain ⟨⟨r, er⟩, hR⟩ : ∃ R, R = ranF rb rl ys k := ⟨_, rfl⟩
  have hrl : r.length ≤ 4096 := by have := ranF_length rb rl ys k; rw [← hR] at this; exact this
  have HR := Lib.hid hR
  have hcc : ∀ W, Below w.heap.size w W → Calls Try.prog 33 #[.slice a m cap] W fun e w' => ∃ a1 c1, e = .returned (.slice a1 m c1) ∧ Below W.heap.size W w' ∧ Sl w' 2 16 a1 m c1 (ys.flatMap encCell) := fun W hb => by
    subst hyl
    refine (cells_any ys a cap W (hsl.below (by omega) hb)).mono ?_
    rintro e w1 ⟨v1, rfl, hb1, ho1⟩
    obtain ⟨a1, c1, rfl⟩ := own_form ho1
    exact ⟨a1, c1, rfl, hb1, sl_own_up (bytes := 16) ho1 (by omega) hsl.wide (Below.refl _ _)⟩
  have hcn : ∀ W a c, Sl W 2 16 a m c (ys.flatMap encCell) → Calls Try.prog 47 #[.agg #[.int .i64 rb, .int .i64 rl], .slice a m c, .int .i64 k] W fun e w' => ∃ a2 c2, e = .returned (.tuple #[.slice a2 r.length c2, .int .i64 er]) ∧ Below W.heap.size W w' ∧ Tight W.heap.size w' (.slice a2 r.length c2) r := fun W a c h => by
    subst hyl
    exact (run_any rb rl ys k a c W h).mono fun e w' h => ran_of HR.out h
  have hcr : ∀ W, Sl W 2 16 a m cap (ys.flatMap encCell) → Calls Try.prog 48 #[.agg #[.int .i64 rb, .int .i64 rl], .slice a m cap, .int .i64 k] W fun e w' => ∃ a2 c2, e = .returned (.tuple #[.slice a2 r.length c2, .int .i64 er]) ∧ Below W.heap.size W w' ∧ Tight W.heap.size w' (.slice a2 r.length c2) r := fun W h => by
    subst hyl
    exact (refRun_any rb rl ys k a cap W h).mono fun e w' h => ran_of HR.out h
  have hc3 : ∀ W a c, Sl W 2 16 a 3 c (rodL.flatMap encCell) → Calls Try.prog 47 #[.agg #[.int .i64 8, .int .i64 12], .slice a 3 c, .int .i64 2] W fun e w' => ∃ a2 c2, e = .returned (.tuple #[.slice a2 3 c2, .int .i64 0]) ∧ Below W.heap.size W w' := fun W a c h => (run_any 8 12 rodL 2 a c W h).mono fun e w' h => by
    obtain ⟨a2, c2, h1, h2, _⟩ := ran_of ranF_rod.symm h
    exact ⟨a2, c2, h1, h2⟩
  have hsv : ∀ W, Below w.heap.size w W → Sl W 2 16 a m cap (ys.flatMap encCell) := fun W hb => hsl.below (by omega) hb
  obtain ⟨n, hn⟩ : ∃ n, n = zs.length := ⟨_, rfl⟩
  rw [← hn] at hcase hrow hroom ⊢
  have HCC := Lib.hid hcc
  have HCN := Lib.hid hcn
  have HCR := Lib.hid hcr
  have HC3 := Lib.hid hc3
  have HS := Lib.hid hsv
  clear hR hcc hcn hcr hc3 hsv hs hn hsl hyl
  rcases hcase with ⟨h60, rfl⟩ | ⟨h60, rfl⟩
  · obtain ⟨b0, o0, rfl⟩ := hrow h60
    clear hrow
    go_enter Try.func10, Try.ntmps10
    go_wp2_with fail
    obtain ⟨X, hX⟩ : ∃ X, X = w.alloc (.cells #[.int .i64 rb, .int .i64 rl] 24) := ⟨_, rfl⟩
    have hBX : Below w.heap.size w X := by rw [hX]; exact (Below.refl _ _).alloc (Nat.le_refl _) _
    have hXr : X.heap[w.heap.size]? = some (.cells #[.int .i64 rb, .int .i64 rl] 24 (0, 0)) := by rw [hX]; exact blk_last _ _ rfl
    have hlt := lt_of_block hXr
    rw [← hX]
    have hrd : ∀ W, Below X.heap.size X W → W.heap[w.heap.size]? = some (.cells #[.int .i64 rb, .int .i64 rl] 24 (0, 0)) := fun W hb => (hb.block _ hlt).trans hXr
    have hk0 : ∀ W, Below X.heap.size X W → W.cell? ⟨w.heap.size, 0, none⟩ = some (.int .i64 rb) ∧ W.cell? ⟨w.heap.size, 1, none⟩ = some (.int .i64 rl) := fun W hb => ⟨Joins.cell_of_block (hrd W hb) 0, Joins.cell_of_block (hrd W hb) 1⟩
    have HK := Lib.hid hk0
    have HRD := Lib.hid hrd
    have hXd := (Below.refl X.heap.size X).drew
    have hcx : Calls Try.prog 33 #[.slice (some ⟨b0, o0, none⟩) 60 cap] X.drew fun e w' => ∃ a1 c1, e = .returned (.slice a1 60 c1) ∧ Below X.heap.size X w' ∧ Sl w' 2 16 a1 60 c1 (ys.flatMap encCell) := (HCC.out X.drew hBX.drew).mono fun e w' ⟨a1, c1, h1, h2, h3⟩ => ⟨a1, c1, h1, hXd.trans h2, h3⟩
    have HCX := Lib.hid hcx
    clear hX hXr hlt hrd hk0 hcx
    go_region_held3 (fun w' => w'.cell? ⟨w.heap.size, 0, none⟩ = some (.int .i64 rb) ∧ w'.cell? ⟨w.heap.size, 1, none⟩ = some (.int .i64 rl)) (first | exact HK.out _ hXd | exact HK.out _ hb1 | exact HK.out _ (hb1.trans (hb2.mono hb1.size))) ((first | (go_at_call 33; refine (HCX.out).mono ?_; rintro e w1 ⟨a1, c1, rfl, hb1, S1⟩) | (go_at_call 47; refine (HCN.out _ _ _ (by assumption)).mono ?_; rintro e w2 ⟨a2, c2, rfl, hb2, T2⟩)))
    have hBX2 := hb1.trans (hb2.mono hb1.size)
    have hr2 := HRD.out _ hBX2
    have r0 := Joins.cell_of_block hr2 0
    have r1 := Joins.cell_of_block hr2 1
    simp at r0 r1
    have hB2 := hBX.trans (hBX2.mono hBX.size)
    have HT2 := Lib.hid T2
    clear T2 hb1 hb2 hBX2 hr2
    go_wp2_with fail
    refine (HCR.out _ (HS.out _ hB2)).mono ?_
    rintro e w3 ⟨a3, c3, rfl, hb3, T3⟩
    have hB3 := hB2.trans (hb3.mono hB2.size)
    have HT3 := Lib.hid T3
    clear T3 r0 r1
    go_wp2_with fail
    refine (life_any _).mono ?_
    rintro e w4 ⟨rfl, hb4⟩
    go_wp2_with fail
    refine (rod_any _).mono ?_
    rintro e w5 ⟨a5, c5, rfl, hb5, S5⟩
    have HS5 := Lib.hid S5
    clear S5
    go_wp2_with fail
    refine (HC3.out _ _ _ HS5.out).mono ?_
    rintro e w6 ⟨a6, c6, rfl, hb6⟩
    have b36 := hb4.trans ((hb5.trans (hb6.mono hb5.size)).mono hb4.size)
    have S2 := Lib.hid (((HT2.out.below hb3).below b36).sl (by omega))
    have S3 := Lib.hid ((HT3.out.below b36).sl (by omega))
    have hB6 := hB3.trans (b36.mono hB3.size)
    clear hb3 hb4 hb5 hb6
    go_wp2_with fail
    refine (same_any r _ _ _ _ _ S2.out S3.out).mono ?_
    rintro e w7 ⟨rfl, hb7⟩
    go_wp2_with fail
    go_ret
    exact ⟨by simp, hB6.trans (hb7.mono hB6.size)⟩
  · clear hrow
    go_enter Try.func10, Try.ntmps10
    go_wp2_with fail
    obtain ⟨X, hX⟩ : ∃ X, X = w.alloc (.cells #[.int .i64 rb, .int .i64 rl] 24) := ⟨_, rfl⟩
    have hBX : Below w.heap.size w X := by rw [hX]; exact (Below.refl _ _).alloc (Nat.le_refl _) _
    have hXr : X.heap[w.heap.size]? = some (.cells #[.int .i64 rb, .int .i64 rl] 24 (0, 0)) := by rw [hX]; exact blk_last _ _ rfl
    have hlt := lt_of_block hXr
    rw [← hX]
    have hrd : ∀ W, Below X.heap.size X W → W.heap[w.heap.size]? = some (.cells #[.int .i64 rb, .int .i64 rl] 24 (0, 0)) := fun W hb => (hb.block _ hlt).trans hXr
    have hk0 : ∀ W, Below X.heap.size X W → W.cell? ⟨w.heap.size, 0, none⟩ = some (.int .i64 rb) ∧ W.cell? ⟨w.heap.size, 1, none⟩ = some (.int .i64 rl) := fun W hb => ⟨Joins.cell_of_block (hrd W hb) 0, Joins.cell_of_block (hrd W hb) 1⟩
    have HK := Lib.hid hk0
    have HRD := Lib.hid hrd
    have hXd := (Below.refl X.heap.size X).drew
    have hcx : Calls Try.prog 33 #[.slice a m cap] X.drew fun e w' => ∃ a1 c1, e = .returned (.slice a1 m c1) ∧ Below X.heap.size X w' ∧ Sl w' 2 16 a1 m c1 (ys.flatMap encCell) := (HCC.out X.drew hBX.drew).mono fun e w' ⟨a1, c1, h1, h2, h3⟩ => ⟨a1, c1, h1, hXd.trans h2, h3⟩
    have HCX := Lib.hid hcx
    clear hX hXr hlt hrd hk0 hcx
    go_region_held3 (fun w' => w'.cell? ⟨w.heap.size, 0, none⟩ = some (.int .i64 rb) ∧ w'.cell? ⟨w.heap.size, 1, none⟩ = some (.int .i64 rl)) (first | exact HK.out _ hXd | exact HK.out _ hb1 | exact HK.out _ (hb1.trans (hb2.mono hb1.size))) ((first | (go_at_call 33; refine (HCX.out).mono ?_; rintro e w1 ⟨a1, c1, rfl, hb1, S1⟩) | (go_at_call 47; refine (HCN.out _ _ _ (by assumption)).mono ?_; rintro e w2 ⟨a2, c2, rfl, hb2, T2⟩)))
    have hBX2 := hb1.trans (hb2.mono hb1.size)
    have hr2 := HRD.out _ hBX2
    have r0 := Joins.cell_of_block hr2 0
    have r1 := Joins.cell_of_block hr2 1
    simp at r0 r1
    have hB2 := hBX.trans (hBX2.mono hBX.size)
    have HT2 := Lib.hid T2
    clear T2 hb1 hb2 hBX2 hr2
    go_wp2_with fail
    refine (HCR.out _ (HS.out _ hB2)).mono ?_
    rintro e w3 ⟨a3, c3, rfl, hb3, T3⟩
    have hB3 := hB2.trans (hb3.mono hB2.size)
    have HT3 := Lib.hid T3
    clear T3 r0 r1
    go_wp2_with fail
    refine (life_any _).mono ?_
    rintro e w4 ⟨rfl, hb4⟩
    go_wp2_with fail
    refine (rod_any _).mono ?_
    rintro e w5 ⟨a5, c5, rfl, hb5, S5⟩
    have HS5 := Lib.hid S5
    clear S5
    go_wp2_with fail
    refine (HC3.out _ _ _ HS5.out).mono ?_
    rintro e w6 ⟨a6, c6, rfl, hb6⟩
    have b36 := hb4.trans ((hb5.trans (hb6.mono hb5.size)).mono hb4.size)
    have S2 := Lib.hid (((HT2.out.below hb3).below b36).sl (by omega))
    have S3 := Lib.hid ((HT3.out.below b36).sl (by omega))
    have hB6 := hB3.trans (b36.mono hB3.size)
    clear hb3 hb4 hb5 hb6
    go_wp2_with fail
    refine (same_any r _ _ _ _ _ S2.out S3.out).mono ?_
    rintro e w7 ⟨rfl, hb7⟩
    go_wp2_with fail
    go_ret
    exact ⟨by simp, hB6.trans (hb7.mono hB6.size)⟩
section
open Go.ChangeShapes Go.WideShapes Go.ChangeAt
set_option maxRecDepth 100000 in
theorem lifted_ruleRuns (os : Os) (started : os.Started) (H : Type) (enc : TypeId × Value → H)
    (walk : ∀ (W : World) (v0 : Value) (v1 : Value) (v2 : Value), Is_rule W v0 → Is_cells W v1 → Is_int W v2 → Calls Try.prog 10 #[v0, v1, v2] W fun e w' => e = .returned (.bool true) ∧ Below W.heap.size W w') :
    ReturnsInHanded {} Try.checked os 10 .any (Rows.ruleRunsSpec.pre6 enc Try.prog Try.f10 Rows.ruleRunsRow.domain false) (Rows.ruleRunsSpec.post enc Try.prog Try.f10 false true false false) := by
  refine returnsInHanded_of_change_sized (C := Try.checked) own started (by kernel_rfl) Try.func10
    (ChangeSpec.witness6 (enc := enc) (C := Try.checked) false ⟨#[], #[.agg #[.int .i64 0, .int .i64 0], .slice none 0 0, .int .i64 0], []⟩ 8 (by kernel_rfl) (by kernel_rfl) (by kernel_rfl) (by kernel_rfl)) ?_
  intro W base args ds gs before hval0 hW hcnd hsz0 _
  have hval : ∀ (j : Nat) t v, Try.f10.params[j]? = some t → args[j]? = some v → Value.okWide Try.prog W .any base t v := hval0
  have hW' := hW
  obtain ⟨p, q, hA0, hV, rfl, hfz, hnd⟩ := hW
  have hA : DataW.TrodAll enc Try.prog W 0 (fun _ => true) true Try.f10.params.toList args.toList ds p := hA0
  rw [Try.params10] at hA hval
  obtain ⟨rfl, rfl⟩ := trodVars_none hV
  have hB := hA
  obtain ⟨v0, vs0, d0, ds0, p0, q0, hargs, rfl, rfl, h0, r0⟩ := trodAll_cons hA
  obtain ⟨v1, vs1, d1, ds1, p1, q1, rfl, rfl, rfl, h1, r1⟩ := trodAll_cons r0
  obtain ⟨v2, vs2, d2, ds2, p2, q2, rfl, rfl, rfl, h2, r2⟩ := trodAll_cons r1
  obtain ⟨rfl, rfl, rfl⟩ := trodAll_nil r2
  obtain rfl : args = #[v0, v1, v2] := by cases args; simp_all
  have hsz : (DataW.weightsEach Try.prog [24, 22, 3] [d0, d1, d2]).all (· ≤ reachBytes) = true := hsz0
  have i0 := open_rule (hval 0 24 v0 rfl rfl) h0 (weights_le hsz 0 rfl rfl)
  have i1 := open_cells (hval 1 22 v1 rfl rfl) h1 (weights_le hsz 1 rfl rfl)
  have i2 := open_int (hval 2 3 v2 rfl rfl) h2 (weights_le hsz 2 rfl rfl)
  refine (walk W v0 v1 v2 i0 i1 i2).mono fun e W' ⟨he, bel⟩ => ?_
  subst he
  exact ⟨_, rfl, _, _, _, [], _, [], hW', trodAll_mk1 (shut_bool Try.underlying4 _), trodAll_below laidOut (by kernel_rfl) hB bel, rfl, bel.frame _, fun h => by cases h⟩

theorem over_ruleRuns (walk : ∀ (W : World) (v0 : Value) (v1 : Value) (v2 : Value), Is_rule W v0 → Is_cells W v1 → Is_int W v2 → Calls Try.prog 10 #[v0, v1, v2] W fun e w' => e = .returned (.bool true) ∧ Below W.heap.size W w') :
    Rows.ruleRunsRow.holds Try.pinned (OpenSpec.ofChange Rows.ruleRunsSpec) :=
  OpenClaim.holds_of_wide 10 Try.f10 rfl rfl rfl rfl rfl rfl rfl ⟨rfl, rfl, rfl, rfl, rfl⟩ rfl rfl rfl rfl rfl (by kernel_rfl) Try.func10 (by kernel_rfl)
    (of_decide_eq_true (by kernel_rfl)) (by unfold Func.isWrapper; first | (rw [if_pos (by decide +kernel)]; kernel_rfl) | (rw [if_neg (by decide +kernel)]; exact ⟨rfl, rfl⟩))
    (fun os started H enc _ => lifted_ruleRuns os started H enc walk)
end
theorem ruleRuns_proved : Rows.RuleRunsSaid := over_ruleRuns fun W _ _ _ ⟨rb, rl, e1, _, _⟩ ⟨zs, ⟨a, cap, e2, hs⟩, _⟩ ⟨n, e3, _⟩ => by
  subst e1; subst e2; subst e3
  exact law_runs rb rl zs n a cap W hs
end Go.Proofs.Ytffgpjkkgndkiaa
