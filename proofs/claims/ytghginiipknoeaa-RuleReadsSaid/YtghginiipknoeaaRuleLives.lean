/-
  For all rules, states and numbers, rule.Lives answers what the document's Lives answers; no condition.
-/
import Derived.Test.YtghginiipknoeaaKinds
namespace Go.Proofs.Ytghginiipknoeaa
open Go.RowKit

/-- 'x & 1' on an int is 'x % 2'. -/
theorem and_one_i64 (x : Int) : bits .and .i64 x 1 = x % 2 := by
  have h1 : BitVec.ofInt 64 x &&& BitVec.ofInt 64 1 = BitVec.ofNat 64 ((BitVec.ofInt 64 x).toNat % 2) := by
    apply BitVec.eq_of_toNat_eq
    rw [BitVec.toNat_and]
    have e : (BitVec.ofInt 64 1).toNat = 1 := by decide
    rw [e, Nat.and_one_is_mod, BitVec.toNat_ofNat]
    omega
  show IntKind.i64.wrap ((BitVec.ofInt 64 x &&& BitVec.ofInt 64 1).toNat : Int) = x % 2
  rw [h1, BitVec.toNat_ofNat, IntKind.wrap_i64]
  have e2 : ((BitVec.ofInt 64 x).toNat : Int) = x % 18446744073709551616 := by
    rw [BitVec.toNat_ofInt]; omega
  omega

/-- Go's remainder by 2 is 1 or -1 just where a number is odd. -/
theorem odd_tmod (x : Int) : ((x.tmod 2 == 1) || (x.tmod 2 == -1)) = (x % 2 == 1) := by
  have h := Int.mul_tdiv_add_tmod x 2
  have h1 : x.tmod 2 = -1 ∨ x.tmod 2 = 0 ∨ x.tmod 2 = 1 := by
    have a := Int.tmod_lt_of_pos x (show (0 : Int) < 2 by omega)
    have b := Int.lt_tmod_of_pos x (show (0 : Int) < 2 by omega)
    omega
  rcases h1 with e | e | e <;> rw [e] at h ⊢ <;> simp <;> omega

/-- What 'Lives' answers. -/
def livesF (b l : Int) (al : Bool) (n : Int) : Bool := decide (0 ≤ n) && (decide (n ≤ 8) && ((if al then l else b) / 2 ^ n.toNat % 2 == 1))
theorem three (n : Int) : n < 0 ∨ (0 ≤ n ∧ n ≤ 8) ∨ (0 ≤ n ∧ 8 < n) := by omega

set_option maxHeartbeats 400000 in
theorem lives_any (b l n : Int) (al : Bool) (w : World)  :
    Calls Try.prog 15 #[.agg #[.int .i64 b, .int .i64 l], .bool al, .int .i64 n] w fun e w' => e = .returned (.bool (livesF b l al n)) ∧ Below w.heap.size w w' := by
  cases al <;> rcases three n with h0 | ⟨h0, h8⟩ | ⟨h0, h8⟩
  all_goals
    go_enter Try.func15, Try.ntmps15
    go_wp2
    go_ret
    exact ⟨by simp [livesF, and_one_i64] <;> first | omega | simp_all, (Below.refl _ _).alloc (Nat.le_refl _) _⟩
set_option maxHeartbeats 400000 in
theorem refLives_any (b l n : Int) (al : Bool) (w : World)  :
    Calls Try.prog 16 #[.agg #[.int .i64 b, .int .i64 l], .bool al, .int .i64 n] w fun e w' => e = .returned (.bool (livesF b l al n)) ∧ Below w.heap.size w w' := by
  have ob := odd_tmod (b / 2 ^ n.toNat)
  have ol := odd_tmod (l / 2 ^ n.toNat)
  have Ob := Lib.hid ob
  have Ol := Lib.hid ol
  clear ob ol
  cases al <;> rcases three n with h0 | ⟨h0, h8⟩ | ⟨h0, h8⟩
  all_goals
    go_enter Try.func16, Try.ntmps16
    go_wp2
    all_goals
      go_ret
      have ob := Ob.out
      have ol := Ol.out
      refine ⟨?_, (Below.refl _ _).alloc (Nat.le_refl _) _⟩
      simp_all [livesF] <;> omega
theorem lives_yes (w : World) :
    Calls Try.prog 15 #[.agg #[.int .i64 8, .int .i64 0], .bool false, .int .i64 3] w fun e w' => e = .returned (.bool true) ∧ Below w.heap.size w w' :=
  lives_any 8 0 3 false w
set_option maxHeartbeats 400000 in
theorem law_lives (b l n : Int) (al : Bool) (w : World) :
    Calls Try.prog 4 #[.agg #[.int .i64 b, .int .i64 l], .bool al, .int .i64 n] w fun e w' => e = .returned (.bool true) ∧ Below w.heap.size w w' := by
  go_enter Try.func4, Try.ntmps4
  go_wp2_with fail
  obtain ⟨W, hW⟩ : ∃ W, W = w.alloc (.cells #[.int .i64 b, .int .i64 l] 24) := ⟨_, rfl⟩
  rw [← hW]
  have c0 : ∀ x : Grow W, x.val.cell? ⟨w.heap.size, 0, none⟩ = some (.int .i64 b) := Grow.cells (by subst hW; simp)
  have c1 : ∀ x : Grow W, x.val.cell? ⟨w.heap.size, 1, none⟩ = some (.int .i64 l) := Grow.cells (by subst hW; simp)
  have bW : Below w.heap.size w W := by subst hW; exact (Below.refl _ _).alloc (Nat.le_refl _) _
  clear hW
  refine wp_region_grow (by kernel_rfl) (by kernel_rfl) ?_
  repeat (go_big_quiet_step (first | (go_at_call 15; first | (with_reducible exact grow_of (lives_yes _)) | (with_reducible exact grow_of (lives_any _ _ _ _ _))) | (go_at_call 16; with_reducible exact grow_of (refLives_any _ _ _ _ _))))
  refine wpQuiet_nil ?_
  intro _ hw'
  obtain ⟨x, hx⟩ := hw'
  subst hx
  go_wp2
  go_ret
  exact ⟨rfl, bW.trans (x.below.mono bW.size)⟩
section
open Go.ChangeShapes Go.WideShapes Go.ChangeAt
set_option maxRecDepth 100000 in
theorem lifted_ruleLives (os : Os) (started : os.Started) (H : Type) (enc : TypeId × Value → H)
    (walk : ∀ (W : World) (v0 : Value) (v1 : Value) (v2 : Value), Is_rule W v0 → Is_bool W v1 → Is_int W v2 → Calls Try.prog 4 #[v0, v1, v2] W fun e w' => e = .returned (.bool true) ∧ Below W.heap.size W w') :
    ReturnsInHanded {} Try.checked os 4 .any (Rows.ruleLivesSpec.pre6 enc Try.prog Try.f4 Rows.ruleLivesRow.domain false) (Rows.ruleLivesSpec.post enc Try.prog Try.f4 false true false false) := by
  refine returnsInHanded_of_change_sized (C := Try.checked) own started (by kernel_rfl) Try.func4
    (ChangeSpec.witness6 (enc := enc) (C := Try.checked) false ⟨#[], #[.agg #[.int .i64 0, .int .i64 0], .bool false, .int .i64 0], []⟩ 8 (by kernel_rfl) (by kernel_rfl) (by kernel_rfl) (by kernel_rfl)) ?_
  intro W base args ds gs before hval0 hW hcnd hsz0 _
  have hval : ∀ (j : Nat) t v, Try.f4.params[j]? = some t → args[j]? = some v → Value.okWide Try.prog W .any base t v := hval0
  have hW' := hW
  obtain ⟨p, q, hA0, hV, rfl, hfz, hnd⟩ := hW
  have hA : DataW.TrodAll enc Try.prog W 0 (fun _ => true) true Try.f4.params.toList args.toList ds p := hA0
  rw [Try.params4] at hA hval
  obtain ⟨rfl, rfl⟩ := trodVars_none hV
  have hB := hA
  obtain ⟨v0, vs0, d0, ds0, p0, q0, hargs, rfl, rfl, h0, r0⟩ := trodAll_cons hA
  obtain ⟨v1, vs1, d1, ds1, p1, q1, rfl, rfl, rfl, h1, r1⟩ := trodAll_cons r0
  obtain ⟨v2, vs2, d2, ds2, p2, q2, rfl, rfl, rfl, h2, r2⟩ := trodAll_cons r1
  obtain ⟨rfl, rfl, rfl⟩ := trodAll_nil r2
  obtain rfl : args = #[v0, v1, v2] := by cases args; simp_all
  have hsz : (DataW.weightsEach Try.prog [24, 4, 3] [d0, d1, d2]).all (· ≤ reachBytes) = true := hsz0
  have i0 := open_rule (hval 0 24 v0 rfl rfl) h0 (weights_le hsz 0 rfl rfl)
  have i1 := open_bool (hval 1 4 v1 rfl rfl) h1 (weights_le hsz 1 rfl rfl)
  have i2 := open_int (hval 2 3 v2 rfl rfl) h2 (weights_le hsz 2 rfl rfl)
  refine (walk W v0 v1 v2 i0 i1 i2).mono fun e W' ⟨he, bel⟩ => ?_
  subst he
  exact ⟨_, rfl, _, _, _, [], _, [], hW', trodAll_mk1 (shut_bool Try.underlying4 _), trodAll_below laidOut (by kernel_rfl) hB bel, rfl, bel.frame _, fun h => by cases h⟩

theorem over_ruleLives (walk : ∀ (W : World) (v0 : Value) (v1 : Value) (v2 : Value), Is_rule W v0 → Is_bool W v1 → Is_int W v2 → Calls Try.prog 4 #[v0, v1, v2] W fun e w' => e = .returned (.bool true) ∧ Below W.heap.size W w') :
    Rows.ruleLivesRow.holds Try.pinned (OpenSpec.ofChange Rows.ruleLivesSpec) :=
  OpenClaim.holds_of_wide 4 Try.f4 rfl rfl rfl rfl rfl rfl rfl ⟨rfl, rfl, rfl, rfl, rfl⟩ rfl rfl rfl rfl rfl (by kernel_rfl) Try.func4 (by kernel_rfl)
    (of_decide_eq_true (by kernel_rfl)) (by unfold Func.isWrapper; first | (rw [if_pos (by decide +kernel)]; kernel_rfl) | (rw [if_neg (by decide +kernel)]; exact ⟨rfl, rfl⟩))
    (fun os started H enc _ => lifted_ruleLives os started H enc walk)
end
theorem ruleLives_proved : Rows.RuleLivesSaid := over_ruleLives fun W _ _ _ ⟨b, l, e0, _, _⟩ ⟨al, e1⟩ ⟨n, e2, _⟩ => by
  subst e0; subst e1; subst e2
  exact law_lives b l n al W
end Go.Proofs.Ytghginiipknoeaa
