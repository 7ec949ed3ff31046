/-
  For all rules and lists of cells, rule.Next answers what the document's Next answers; no condition.
-/
import Derived.Test.YtffgpjkkgndkiaaRuns
import Derived.Test.YtffgpjkkgndkiaaLifeRod
namespace Go.Proofs.Ytffgpjkkgndkiaa
set_option maxRecDepth 100000
open Go.RowKit

set_option maxHeartbeats 2000000 in
theorem law_nexts (rb rl : Int) (zs : List (Int × Int)) (a : Option Addr) (cap : Nat) (w : World) (hs : Sl w 2 16 a zs.length cap (zs.flatMap encCell)) :
    Calls Try.prog 8 #[.agg #[.int .i64 rb, .int .i64 rl], .slice a zs.length cap] w fun e w' => e = .returned (.bool true) ∧ Below w.heap.size w w' := by
  have hwide := hs.wide
  obtain ⟨⟨r, er⟩, hR⟩ : ∃ R, R = nextF rb rl zs := ⟨_, rfl⟩
  have hrl : r.length ≤ 4096 := by have := nextF_length rb rl zs; rw [← hR] at this; exact this
  have HR := Lib.hid hR
  have hcc : ∀ W, Below w.heap.size w W → Calls Try.prog 33 #[.slice a zs.length cap] W fun e w' => ∃ a1 c1, e = .returned (.slice a1 zs.length c1) ∧ Below W.heap.size W w' ∧ Sl w' 2 16 a1 zs.length c1 (zs.flatMap encCell) := fun W hb => by
    refine (cells_any zs a cap W (hs.below (by omega) hb)).mono ?_
    rintro e w1 ⟨v1, rfl, hb1, ho1⟩
    obtain ⟨a1, c1, rfl⟩ := own_form ho1
    exact ⟨a1, c1, rfl, hb1, sl_own_up (bytes := 16) ho1 (by omega) hwide (Below.refl _ _)⟩
  have hcn : ∀ W a c, Sl W 2 16 a zs.length c (zs.flatMap encCell) → Calls Try.prog 37 #[.agg #[.int .i64 rb, .int .i64 rl], .slice a zs.length c] W fun e w' => ∃ a2 c2, e = .returned (.tuple #[.slice a2 r.length c2, .int .i64 er]) ∧ Below W.heap.size W w' ∧ Tight W.heap.size w' (.slice a2 r.length c2) r := fun W a c h => (next_any rb rl zs a c W h).mono fun e w' h => nexted_of HR.out h
  have hcr : ∀ W, Sl W 2 16 a zs.length cap (zs.flatMap encCell) → Calls Try.prog 38 #[.agg #[.int .i64 rb, .int .i64 rl], .slice a zs.length cap] W fun e w' => ∃ a2 c2, e = .returned (.tuple #[.slice a2 r.length c2, .int .i64 er]) ∧ Below W.heap.size W w' ∧ Tight W.heap.size w' (.slice a2 r.length c2) r := fun W h => (refNext_any rb rl zs a cap W h).mono fun e w' h => nexted_of HR.out h
  have hc3 : ∀ W a c, Sl W 2 16 a 3 c (rodL.flatMap encCell) → Calls Try.prog 37 #[.agg #[.int .i64 8, .int .i64 12], .slice a 3 c] W fun e w' => ∃ a2 c2, e = .returned (.tuple #[.slice a2 3 c2, .int .i64 0]) ∧ Below W.heap.size W w' := fun W a c h => (next_any 8 12 rodL a c W h).mono fun e w' h => by
    obtain ⟨a2, c2, h1, h2, _⟩ := nexted_of nextF_rod.symm h
    exact ⟨a2, c2, h1, h2⟩
  have hsv : ∀ W, Below w.heap.size w W → Sl W 2 16 a zs.length cap (zs.flatMap encCell) := fun W hb => hs.below (by omega) hb
  obtain ⟨n, hn⟩ : ∃ n, n = zs.length := ⟨_, rfl⟩
  rw [← hn] at hcc hcn hcr hsv ⊢
  have HCC := Lib.hid hcc
  have HCN := Lib.hid hcn
  have HCR := Lib.hid hcr
  have HC3 := Lib.hid hc3
  have HS := Lib.hid hsv
  clear hR hcc hcn hcr hc3 hsv hs hn
  go_enter Try.func8, Try.ntmps8
  go_wp2_with fail
  obtain ⟨X, hX⟩ : ∃ X, X = w.alloc (.cells #[.int .i64 rb, .int .i64 rl] 24) := ⟨_, rfl⟩
  have hBX : Below w.heap.size w X := by rw [hX]; exact (Below.refl _ _).alloc (Nat.le_refl _) _
  have hXr : X.heap[w.heap.size]? = some (.cells #[.int .i64 rb, .int .i64 rl] 24 (0, 0)) := by rw [hX]; exact blk_last _ _ rfl
  have hlt := lt_of_block hXr
  rw [← hX]
  have hrd : ∀ W, Below X.heap.size X W → W.heap[w.heap.size]? = some (.cells #[.int .i64 rb, .int .i64 rl] 24 (0, 0)) := fun W hb => (hb.block _ hlt).trans hXr
  have hk0 : ∀ W, Below X.heap.size X W → W.cell? ⟨w.heap.size, 0, none⟩ = some (.int .i64 rb) ∧ W.cell? ⟨w.heap.size, 1, none⟩ = some (.int .i64 rl) := fun W hb => ⟨Joins.cell_of_block (hrd W hb) 0, Joins.cell_of_block (hrd W hb) 1⟩
  have HK := Lib.hid hk0
  have HRD := Lib.hid hrd
  have hXd := (Below.refl X.heap.size X).drew
  have hcx : Calls Try.prog 33 #[.slice a n cap] X.drew fun e w' => ∃ a1 c1, e = .returned (.slice a1 n c1) ∧ Below X.heap.size X w' ∧ Sl w' 2 16 a1 n c1 (zs.flatMap encCell) := (HCC.out X.drew hBX.drew).mono fun e w' ⟨a1, c1, h1, h2, h3⟩ => ⟨a1, c1, h1, hXd.trans h2, h3⟩
  have HCX := Lib.hid hcx
  clear hX hXr hlt hrd hk0 hcx
  go_region_held3 (fun w' => w'.cell? ⟨w.heap.size, 0, none⟩ = some (.int .i64 rb) ∧ w'.cell? ⟨w.heap.size, 1, none⟩ = some (.int .i64 rl)) (first | exact HK.out _ hXd | exact HK.out _ hb1 | exact HK.out _ (hb1.trans (hb2.mono hb1.size))) ((first | (go_at_call 33; refine (HCX.out).mono ?_; rintro e w1 ⟨a1, c1, rfl, hb1, S1⟩) | (go_at_call 37; refine (HCN.out _ _ _ (by assumption)).mono ?_; rintro e w2 ⟨a2, c2, rfl, hb2, T2⟩)))
  have hBX2 := hb1.trans (hb2.mono hb1.size)
  have hr2 := HRD.out _ hBX2
  have r0 := Joins.cell_of_block hr2 0
  have r1 := Joins.cell_of_block hr2 1
  simp at r0 r1
  have hB2 := hBX.trans (hBX2.mono hBX.size)
  have HT2 := Lib.hid T2
  clear T2 hb1 hb2 hBX2 hr2
  go_wp2_with fail
  refine (HCR.out _ (HS.out _ hB2)).mono ?_
  rintro e w3 ⟨a3, c3, rfl, hb3, T3⟩
  have hB3 := hB2.trans (hb3.mono hB2.size)
  have HT3 := Lib.hid T3
  clear T3 r0 r1
  go_wp2_with fail
  refine (life_any _).mono ?_
  rintro e w4 ⟨rfl, hb4⟩
  go_wp2_with fail
  refine (rod_any _).mono ?_
  rintro e w5 ⟨a5, c5, rfl, hb5, S5⟩
  have HS5 := Lib.hid S5
  clear S5
  go_wp2_with fail
  refine (HC3.out _ _ _ HS5.out).mono ?_
  rintro e w6 ⟨a6, c6, rfl, hb6⟩
  have b36 := hb4.trans ((hb5.trans (hb6.mono hb5.size)).mono hb4.size)
  have S2 := Lib.hid (((HT2.out.below hb3).below b36).sl (by omega))
  have S3 := Lib.hid ((HT3.out.below b36).sl (by omega))
  have hB6 := hB3.trans (b36.mono hB3.size)
  clear hb3 hb4 hb5 hb6
  go_wp2_with fail
  refine (same_any r _ _ _ _ _ S2.out S3.out).mono ?_
  rintro e w7 ⟨rfl, hb7⟩
  go_wp2_with fail
  go_ret
  exact ⟨by simp, hB6.trans (hb7.mono hB6.size)⟩
section
open Go.ChangeShapes Go.WideShapes Go.ChangeAt
set_option maxRecDepth 100000 in
theorem lifted_ruleNexts (os : Os) (started : os.Started) (H : Type) (enc : TypeId × Value → H)
    (walk : ∀ (W : World) (v0 : Value) (v1 : Value), Is_rule W v0 → Is_cells W v1 → Calls Try.prog 8 #[v0, v1] W fun e w' => e = .returned (.bool true) ∧ Below W.heap.size W w') :
    ReturnsInHanded {} Try.checked os 8 .any (Rows.ruleNextsSpec.pre6 enc Try.prog Try.f8 Rows.ruleNextsRow.domain false) (Rows.ruleNextsSpec.post enc Try.prog Try.f8 false true false false) := by
  refine returnsInHanded_of_change_sized (C := Try.checked) own started (by kernel_rfl) Try.func8
    (ChangeSpec.witness6 (enc := enc) (C := Try.checked) false ⟨#[], #[.agg #[.int .i64 0, .int .i64 0], .slice none 0 0], []⟩ 8 (by kernel_rfl) (by kernel_rfl) (by kernel_rfl) (by kernel_rfl)) ?_
  intro W base args ds gs before hval0 hW hcnd hsz0 _
  have hval : ∀ (j : Nat) t v, Try.f8.params[j]? = some t → args[j]? = some v → Value.okWide Try.prog W .any base t v := hval0
  have hW' := hW
  obtain ⟨p, q, hA0, hV, rfl, hfz, hnd⟩ := hW
  have hA : DataW.TrodAll enc Try.prog W 0 (fun _ => true) true Try.f8.params.toList args.toList ds p := hA0
  rw [Try.params8] at hA hval
  obtain ⟨rfl, rfl⟩ := trodVars_none hV
  have hB := hA
  obtain ⟨v0, vs0, d0, ds0, p0, q0, hargs, rfl, rfl, h0, r0⟩ := trodAll_cons hA
  obtain ⟨v1, vs1, d1, ds1, p1, q1, rfl, rfl, rfl, h1, r1⟩ := trodAll_cons r0
  obtain ⟨rfl, rfl, rfl⟩ := trodAll_nil r1
  obtain rfl : args = #[v0, v1] := by cases args; simp_all
  have hsz : (DataW.weightsEach Try.prog [24, 22] [d0, d1]).all (· ≤ reachBytes) = true := hsz0
  have i0 := open_rule (hval 0 24 v0 rfl rfl) h0 (weights_le hsz 0 rfl rfl)
  have i1 := open_cells (hval 1 22 v1 rfl rfl) h1 (weights_le hsz 1 rfl rfl)
  refine (walk W v0 v1 i0 i1).mono fun e W' ⟨he, bel⟩ => ?_
  subst he
  exact ⟨_, rfl, _, _, _, [], _, [], hW', trodAll_mk1 (shut_bool Try.underlying4 _), trodAll_below laidOut (by kernel_rfl) hB bel, rfl, bel.frame _, fun h => by cases h⟩

theorem over_ruleNexts (walk : ∀ (W : World) (v0 : Value) (v1 : Value), Is_rule W v0 → Is_cells W v1 → Calls Try.prog 8 #[v0, v1] W fun e w' => e = .returned (.bool true) ∧ Below W.heap.size W w') :
    Rows.ruleNextsRow.holds Try.pinned (OpenSpec.ofChange Rows.ruleNextsSpec) :=
  OpenClaim.holds_of_wide 8 Try.f8 rfl rfl rfl rfl rfl rfl rfl ⟨rfl, rfl, rfl, rfl, rfl⟩ rfl rfl rfl rfl rfl (by kernel_rfl) Try.func8 (by kernel_rfl)
    (of_decide_eq_true (by kernel_rfl)) (by unfold Func.isWrapper; first | (rw [if_pos (by decide +kernel)]; kernel_rfl) | (rw [if_neg (by decide +kernel)]; exact ⟨rfl, rfl⟩))
    (fun os started H enc _ => lifted_ruleNexts os started H enc walk)
end
theorem ruleNexts_proved : Rows.RuleNextsSaid := over_ruleNexts fun W _ _ ⟨rb, rl, e1, _, _⟩ ⟨zs, ⟨a, cap, e2, hs⟩, _⟩ => by
  subst e1; subst e2
  exact law_nexts rb rl zs a cap W hs
end Go.Proofs.Ytffgpjkkgndkiaa
