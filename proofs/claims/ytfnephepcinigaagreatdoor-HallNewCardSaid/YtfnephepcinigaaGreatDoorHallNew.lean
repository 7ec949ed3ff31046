/-
  For all numbers and requests, hall.New answers what the document says, and a nil hall ErrState. Condition: the listed package-level variables hold what the program's text lays (the card ties them).
-/
import Derived.Test.YtfnephepcinigaaGreatDoorCard
import Derived.Test.YtfnephepcinigaaGreatDoorHallWalk
namespace Go.Proofs.YtfnephepcinigaaGreatDoor
set_option maxRecDepth 100000
open Go.RowKit

section
open Go.ChangeShapes Go.WideShapes Go.ChangeAt
noncomputable def laidWorld_hallNew (os : Os) : World := { World.holding Tryz.prog os ⟨#[], #[], []⟩ with heap := ((((World.holding Tryz.prog os ⟨#[], #[], []⟩).heap).modify 2 (laidIn (tabV Rows.laid_math_bits_deBruijn32tab))).modify 3 (laidIn (tabV Rows.laid_math_bits_deBruijn64tab))).modify 0 (laidIn (tabV Rows.laid_internal_strconv_uint64pow10)) }
set_option maxRecDepth 100000 in
theorem laidMet_hallNew (os : Os) : laidMet Tryz.prog Rows.hallNewRow.laid ((laidWorld_hallNew os).forCall (fun _ _ => 0) ⟨#[], #[.int .i64 0, .int .i64 0, .agg #[.int .i64 0, .string ⟨#[]⟩, .string ⟨#[]⟩, .int .i64 0, .int .i64 0, .int .i64 0, .slice none 0 0]], []⟩).memory := laidMet_of_run' 8 (by kernel_rfl) (by kernel_rfl)
set_option maxRecDepth 100000 in
theorem reads_hallNew (os : Os) {H : Type} (enc : TypeId × Value → H) : ∃ places, DataW.whole enc Tryz.prog ((laidWorld_hallNew os).forCall (fun _ _ => 0) ⟨#[], #[.int .i64 0, .int .i64 0, .agg #[.int .i64 0, .string ⟨#[]⟩, .string ⟨#[]⟩, .int .i64 0, .int .i64 0, .int .i64 0, .slice none 0 0]], []⟩).memory Tryz.f4.params.toList Rows.hallNewSpec.vars false #[.int .i64 0, .int .i64 0, .agg #[.int .i64 0, .string ⟨#[]⟩, .string ⟨#[]⟩, .int .i64 0, .int .i64 0, .int .i64 0, .slice none 0 0]].toList 8 = some ([.lit (.int .i64 0), .lit (.int .i64 0), .agg [.lit (.int .i64 0), .lit (.string []), .lit (.string []), .agg [.lit (.int .i64 0), .lit (.int .i64 0)], .lit (.int .i64 0), .nil]], [], places) := ⟨[], by kernel_rfl⟩
set_option maxRecDepth 100000 in
theorem lifted_hallNew (os : Os) (started : os.Started) (H : Type) (enc : TypeId × Value → H) (F : Stop.Interp) (walk : ∀ (W : World) (v0 : Value) (v1 : Value) (v2 : Value), laidMetH Tryz.prog Rows.hallNewRow.laid W → Is_int W v0 → Is_int W v1 → Is_request W v2 → Calls Tryz.prog 4 #[v0, v1, v2] W fun e w' => e = .returned (.bool true) ∧ Below W.heap.size W w') :
    ReturnsInHanded {} Tryz.checked os 4 .any ((OpenSpec.ofChange Rows.hallNewSpec).preRow enc Tryz.prog Tryz.f4 Rows.hallNewRow.domain false Rows.hallNewRow.laid) (((OpenSpec.ofChange Rows.hallNewSpec).at F).post enc Tryz.prog Tryz.f4 false true false false) := by
  obtain ⟨places, hx⟩ := reads_hallNew os enc
  refine returnsInHanded_of_row (C := Tryz.checked) (s := (OpenSpec.ofChange Rows.hallNewSpec)) own started (by kernel_rfl) Tryz.func4
    (witness_row_at (enc := enc) (C := Tryz.checked) false (laidWorld_hallNew os) #[.int .i64 0, .int .i64 0, .agg #[.int .i64 0, .string ⟨#[]⟩, .string ⟨#[]⟩, .int .i64 0, .int .i64 0, .int .i64 0, .slice none 0 0]] rfl (by kernel_rfl) (by kernel_rfl) (by kernel_rfl)
      (OpenSpec.preRow_of_cond 8 hx (by kernel_rfl) (fun k hk => by cases hk) (by kernel_rfl) (laidMet_hallNew os))) ?_
  intro W base args ds gs before hval0 hW hcnd hk hsz0 hL _ _
  have hval : ∀ (j : Nat) t v, Tryz.f4.params[j]? = some t → args[j]? = some v → Value.okWide Tryz.prog W .any base t v := hval0
  have hW' := hW
  obtain ⟨p, q, hA0, hV, rfl, hfz, hnd⟩ := hW
  have hA : DataW.TrodAll enc Tryz.prog W 0 (fun _ => true) true Tryz.f4.params.toList args.toList ds p := hA0
  rw [Tryz.params4] at hA hval
  obtain ⟨rfl, rfl⟩ := trodVars_none hV
  have hB := hA
  obtain ⟨v0, vs0, d0, ds0, p0, q0, hargs, rfl, rfl, h0, r0⟩ := trodAll_cons hA
  obtain ⟨v1, vs1, d1, ds1, p1, q1, rfl, rfl, rfl, h1, r1⟩ := trodAll_cons r0
  obtain ⟨v2, vs2, d2, ds2, p2, q2, rfl, rfl, rfl, h2, r2⟩ := trodAll_cons r1
  obtain ⟨rfl, rfl, rfl⟩ := trodAll_nil r2
  obtain rfl : args = #[v0, v1, v2] := by cases args; simp_all
  have hsz : (DataW.weightsEach Tryz.prog [3, 3, 35] [d0, d1, d2]).all (· ≤ reachBytes) = true := hsz0
  have i0 := open_int (hval 0 3 v0 rfl rfl) h0 (weights_le hsz 0 rfl rfl)
  have i1 := open_int (hval 1 3 v1 rfl rfl) h1 (weights_le hsz 1 rfl rfl)
  have i2 := open_request (hval 2 35 v2 rfl rfl) h2 (weights_le hsz 2 rfl rfl)
  refine (walk W v0 v1 v2 hL i0 i1 i2).mono fun e W' ⟨he, bel⟩ => ?_
  subst he
  exact ⟨_, rfl, _, _, _, [], _, [], hW', trodAll_mk1 (shut_bool Tryz.underlying4 _), trodAll_below laidOut (by kernel_rfl) hB bel, rfl, bel.frame _, fun h => by cases h⟩
theorem said_hallNew (walk : ∀ (W : World) (v0 : Value) (v1 : Value) (v2 : Value), laidMetH Tryz.prog Rows.hallNewRow.laid W → Is_int W v0 → Is_int W v1 → Is_request W v2 → Calls Tryz.prog 4 #[v0, v1, v2] W fun e w' => e = .returned (.bool true) ∧ Below W.heap.size W w') : Rows.hallNewRow.holds Tryz.pinned (OpenSpec.ofChange Rows.hallNewSpec) :=
  OpenClaim.holds_of_cond 4 Tryz.f4 rfl rfl rfl rfl rfl rfl rfl ⟨rfl, rfl, rfl, rfl, rfl⟩ rfl rfl rfl rfl rfl (by kernel_rfl) Tryz.func4 (by kernel_rfl)
    (of_decide_eq_true (by kernel_rfl)) (by unfold Func.isWrapper; first | (rw [if_pos (by decide +kernel)]; kernel_rfl) | (rw [if_neg (by decide +kernel)]; exact ⟨rfl, rfl⟩))
    (fun os started H enc _ F => by rw [OpenClaim.pre_eq_preRow]; exact lifted_hallNew os started H enc F walk)
theorem plain_hallNew (f : FuncId) (fn : Func) (hf : Tryz.pinned.checked.prog.funcNamed "lifelodge/lifelodgelaw.HallNew" = some f) (hfn : Tryz.pinned.checked.prog.funcs[f]? = some fn) :
    true = Tryz.pinned.checked.prog.looks [] ∧ ∀ (j : Nat) t, fn.params[j]? = some t → Tryz.pinned.checked.prog.wantsStandIn t = false := by
  obtain rfl : f = 4 := Option.some.inj ((show Tryz.prog.funcNamed "lifelodge/lifelodgelaw.HallNew" = some 4 by kernel_rfl).symm.trans hf) |>.symm
  obtain rfl : fn = Tryz.f4 := (Option.some.inj (Tryz.func4.symm.trans hfn)).symm
  refine ⟨by kernel_rfl, fun j t ht => ?_⟩
  rw [Tryz.params4] at ht
  have hall : ∀ t ∈ [3, 3, 35], Tryz.prog.wantsStandIn t = false := by
    intro t ht
    simp only [List.mem_cons, List.not_mem_nil, or_false] at ht
    rcases ht with rfl | rfl | rfl <;> kernel_rfl
  exact hall t (by simpa using Array.mem_of_getElem? ht)
theorem over_hallNew (walk : ∀ (W : World) (v0 : Value) (v1 : Value) (v2 : Value), laidMetH Tryz.prog Rows.hallNewRow.laid W → Is_int W v0 → Is_int W v1 → Is_request W v2 → Calls Tryz.prog 4 #[v0, v1, v2] W fun e w' => e = .returned (.bool true) ∧ Below W.heap.size W w') : Rows.HallNewCardSaid :=
  Claim7.holds_tied_plain_at .later [] _ _ _ _ (said_hallNew walk) (fun _ h => by cases h) (by kernel_rfl) (fun _ h => by cases h) hallNew_row_tie rfl ⟨rfl, rfl⟩ (by kernel_rfl) rfl plain_hallNew (by kernel_rfl)
end
theorem hallNew_proved : Rows.HallNewCardSaid := over_hallNew fun W _ _ _ _ ⟨t, e0, _⟩ ⟨d, e1, _⟩ ⟨q, cv, zs, e2, _, hs, _⟩ => by
  subst e0; subst e1; subst e2
  exact law_hallNew t d q cv zs W hs
end Go.Proofs.YtfnephepcinigaaGreatDoor
