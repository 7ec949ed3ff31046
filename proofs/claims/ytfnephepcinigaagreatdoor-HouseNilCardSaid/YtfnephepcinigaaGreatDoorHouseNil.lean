/-
  For all arguments, a nil house answers what the document says.
-/
import Derived.Test.YtfnephepcinigaaGreatDoorCard
namespace Go.Proofs.YtfnephepcinigaaGreatDoor
set_option maxRecDepth 100000
open Go.RowKit

set_option maxRecDepth 100000
theorem htick_nil (w : World) : Calls Tryz.prog 5 #[.pointer none] w fun e w' => e = .returned (.tuple #[]) ∧ w = w' := by
  go_enter Tryz.func5, Tryz.ntmps5
  go_wp2_with fail
  refine bodyPost_ret (v := .tuple #[]) (by simp [results, Tryz.results5, go_sem]) rfl ⟨rfl, rfl⟩
theorem hfeed_nil (t : Int) (s : ByteArray) (w : World) : Calls Tryz.prog 6 #[.pointer none, .int .i64 t, .string s] w fun e w' => e = .returned (.int .i64 11) ∧ w = w' := by
  go_enter Tryz.func6, Tryz.ntmps6
  go_wp2_with fail
  go_ret
  exact ⟨rfl, rfl⟩
theorem hturn_nil (w : World) : Calls Tryz.prog 7 #[.pointer none] w fun e w' => e = .returned (.bool false) ∧ w = w' := by
  go_enter Tryz.func7, Tryz.ntmps7
  go_wp2_with fail
  go_ret
  exact ⟨rfl, rfl⟩
theorem hout_nil (t : Int) (w : World) : Calls Tryz.prog 8 #[.pointer none, .int .i64 t] w fun e w' => e = .returned (.string ⟨#[]⟩) ∧ w = w' := by
  go_enter Tryz.func8, Tryz.ntmps8
  go_wp2_with fail
  go_ret
  exact ⟨rfl, rfl⟩
theorem hhas_nil (t : Int) (w : World) : Calls Tryz.prog 9 #[.pointer none, .int .i64 t] w fun e w' => e = .returned (.int .i64 0) ∧ w = w' := by
  go_enter Tryz.func9, Tryz.ntmps9
  go_wp2_with fail
  go_ret
  exact ⟨rfl, rfl⟩
theorem hlive_nil (w : World) : Calls Tryz.prog 10 #[.pointer none] w fun e w' => e = .returned (.int .i64 0) ∧ w = w' := by
  go_enter Tryz.func10, Tryz.ntmps10
  go_wp2_with fail
  go_ret
  exact ⟨rfl, rfl⟩
theorem hlog_nil (w : World) : Calls Tryz.prog 11 #[.pointer none] w fun e w' => e = .returned (.string ⟨#[]⟩) ∧ w = w' := by
  go_enter Tryz.func11, Tryz.ntmps11
  go_wp2_with fail
  go_ret
  exact ⟨rfl, rfl⟩
set_option maxHeartbeats 2000000 in
theorem law_houseNil (t : Int) (s : ByteArray) (w : World) :
    Calls Tryz.prog 3 #[.int .i64 t, .string s] w fun e w' => e = .returned (.bool true) ∧ Below w.heap.size w w' := by
  go_enter Tryz.func3, Tryz.ntmps3
  go_wp2_with (first | (go_at_call 5; refine (htick_nil _).mono ?_; rintro e w3 ⟨rfl, rfl⟩) | (go_at_call 6; refine (hfeed_nil _ _ _).mono ?_; rintro e w3 ⟨rfl, rfl⟩) | (go_at_call 7; refine (hturn_nil _).mono ?_; rintro e w3 ⟨rfl, rfl⟩) | (go_at_call 8; refine (hout_nil _ _).mono ?_; rintro e w3 ⟨rfl, rfl⟩) | (go_at_call 9; refine (hhas_nil _ _).mono ?_; rintro e w3 ⟨rfl, rfl⟩) | (go_at_call 10; refine (hlive_nil _).mono ?_; rintro e w3 ⟨rfl, rfl⟩) | (go_at_call 11; refine (hlog_nil _).mono ?_; rintro e w3 ⟨rfl, rfl⟩))
  go_ret
  exact ⟨rfl, Below.refl _ _⟩
section
open Go.ChangeShapes Go.WideShapes Go.ChangeAt
noncomputable def laidWorld_houseNil (os : Os) : World := { World.holding Tryz.prog os ⟨#[], #[], []⟩ with heap := (pushErr 6 279 281 [105, 110, 118, 97, 108, 105, 100, 32, 115, 121, 110, 116, 97, 120] (pushErr 7 279 281 [118, 97, 108, 117, 101, 32, 111, 117, 116, 32, 111, 102, 32, 114, 97, 110, 103, 101] ((((((World.holding Tryz.prog os ⟨#[], #[], []⟩).heap).modify 2 (laidIn (tabV Rows.laid_math_bits_deBruijn32tab))).modify 3 (laidIn (tabV Rows.laid_math_bits_deBruijn64tab))).modify 0 (laidIn (tabV Rows.laid_internal_strconv_uint64pow10))).modify 5 (laidIn (tabV Rows.laid_unicode_utf8_acceptRanges))))).modify 4 (laidIn (tabV Rows.laid_unicode_utf8_first)) }
set_option maxRecDepth 100000 in
theorem laidMet_houseNil (os : Os) : laidMet Tryz.prog Rows.houseNilRow.laid ((laidWorld_houseNil os).forCall (fun _ _ => 0) ⟨#[], #[.int .i64 0, .string ⟨#[]⟩], []⟩).memory := laidMet_of_run' 8 (by kernel_rfl) (by kernel_rfl)
set_option maxRecDepth 100000 in
theorem reads_houseNil (os : Os) {H : Type} (enc : TypeId × Value → H) : ∃ places, DataW.whole enc Tryz.prog ((laidWorld_houseNil os).forCall (fun _ _ => 0) ⟨#[], #[.int .i64 0, .string ⟨#[]⟩], []⟩).memory Tryz.f3.params.toList Rows.houseNilSpec.vars false #[.int .i64 0, .string ⟨#[]⟩].toList 8 = some ([.lit (.int .i64 0), .lit (.string [])], [], places) := ⟨[], by kernel_rfl⟩
set_option maxRecDepth 100000 in
theorem lifted_houseNil (os : Os) (started : os.Started) (H : Type) (enc : TypeId × Value → H) (F : Stop.Interp) (walk : ∀ (W : World) (v0 : Value) (v1 : Value), laidMetH Tryz.prog Rows.houseNilRow.laid W → Is_int W v0 → Is_string W v1 → Calls Tryz.prog 3 #[v0, v1] W fun e w' => e = .returned (.bool true) ∧ Below W.heap.size W w') :
    ReturnsInHanded {} Tryz.checked os 3 .any ((OpenSpec.ofChange Rows.houseNilSpec).preRow enc Tryz.prog Tryz.f3 Rows.houseNilRow.domain false Rows.houseNilRow.laid) (((OpenSpec.ofChange Rows.houseNilSpec).at F).post enc Tryz.prog Tryz.f3 false true false false) := by
  obtain ⟨places, hx⟩ := reads_houseNil os enc
  refine returnsInHanded_of_row (C := Tryz.checked) (s := (OpenSpec.ofChange Rows.houseNilSpec)) own started (by kernel_rfl) Tryz.func3
    (witness_row_at (enc := enc) (C := Tryz.checked) false (laidWorld_houseNil os) #[.int .i64 0, .string ⟨#[]⟩] rfl (by kernel_rfl) (by kernel_rfl) (by kernel_rfl)
      (OpenSpec.preRow_of_cond 8 hx (by kernel_rfl) (fun k hk => by cases hk) (by kernel_rfl) (laidMet_houseNil os))) ?_
  intro W base args ds gs before hval0 hW hcnd hk hsz0 hL _ _
  have hval : ∀ (j : Nat) t v, Tryz.f3.params[j]? = some t → args[j]? = some v → Value.okWide Tryz.prog W .any base t v := hval0
  have hW' := hW
  obtain ⟨p, q, hA0, hV, rfl, hfz, hnd⟩ := hW
  have hA : DataW.TrodAll enc Tryz.prog W 0 (fun _ => true) true Tryz.f3.params.toList args.toList ds p := hA0
  rw [Tryz.params3] at hA hval
  obtain ⟨rfl, rfl⟩ := trodVars_none hV
  have hB := hA
  obtain ⟨v0, vs0, d0, ds0, p0, q0, hargs, rfl, rfl, h0, r0⟩ := trodAll_cons hA
  obtain ⟨v1, vs1, d1, ds1, p1, q1, rfl, rfl, rfl, h1, r1⟩ := trodAll_cons r0
  obtain ⟨rfl, rfl, rfl⟩ := trodAll_nil r1
  obtain rfl : args = #[v0, v1] := by cases args; simp_all
  have hsz : (DataW.weightsEach Tryz.prog [3, 9] [d0, d1]).all (· ≤ reachBytes) = true := hsz0
  have i0 := open_int (hval 0 3 v0 rfl rfl) h0 (weights_le hsz 0 rfl rfl)
  have i1 := open_string (hval 1 9 v1 rfl rfl) h1 (weights_le hsz 1 rfl rfl)
  refine (walk W v0 v1 hL i0 i1).mono fun e W' ⟨he, bel⟩ => ?_
  subst he
  exact ⟨_, rfl, _, _, _, [], _, [], hW', trodAll_mk1 (shut_bool Tryz.underlying4 _), trodAll_below laidOut (by kernel_rfl) hB bel, rfl, bel.frame _, fun h => by cases h⟩
theorem said_houseNil (walk : ∀ (W : World) (v0 : Value) (v1 : Value), laidMetH Tryz.prog Rows.houseNilRow.laid W → Is_int W v0 → Is_string W v1 → Calls Tryz.prog 3 #[v0, v1] W fun e w' => e = .returned (.bool true) ∧ Below W.heap.size W w') : Rows.houseNilRow.holds Tryz.pinned (OpenSpec.ofChange Rows.houseNilSpec) :=
  OpenClaim.holds_of_cond 3 Tryz.f3 rfl rfl rfl rfl rfl rfl rfl ⟨rfl, rfl, rfl, rfl, rfl⟩ rfl rfl rfl rfl rfl (by kernel_rfl) Tryz.func3 (by kernel_rfl)
    (of_decide_eq_true (by kernel_rfl)) (by unfold Func.isWrapper; first | (rw [if_pos (by decide +kernel)]; kernel_rfl) | (rw [if_neg (by decide +kernel)]; exact ⟨rfl, rfl⟩))
    (fun os started H enc _ F => by rw [OpenClaim.pre_eq_preRow]; exact lifted_houseNil os started H enc F walk)
theorem plain_houseNil (f : FuncId) (fn : Func) (hf : Tryz.pinned.checked.prog.funcNamed "lifelodge/lifelodgelaw.HouseNil" = some f) (hfn : Tryz.pinned.checked.prog.funcs[f]? = some fn) :
    true = Tryz.pinned.checked.prog.looks [] ∧ ∀ (j : Nat) t, fn.params[j]? = some t → Tryz.pinned.checked.prog.wantsStandIn t = false := by
  obtain rfl : f = 3 := Option.some.inj ((show Tryz.prog.funcNamed "lifelodge/lifelodgelaw.HouseNil" = some 3 by kernel_rfl).symm.trans hf) |>.symm
  obtain rfl : fn = Tryz.f3 := (Option.some.inj (Tryz.func3.symm.trans hfn)).symm
  refine ⟨by kernel_rfl, fun j t ht => ?_⟩
  rw [Tryz.params3] at ht
  have hall : ∀ t ∈ [3, 9], Tryz.prog.wantsStandIn t = false := by
    intro t ht
    simp only [List.mem_cons, List.not_mem_nil, or_false] at ht
    rcases ht with rfl | rfl <;> kernel_rfl
  exact hall t (by simpa using Array.mem_of_getElem? ht)
theorem over_houseNil (walk : ∀ (W : World) (v0 : Value) (v1 : Value), laidMetH Tryz.prog Rows.houseNilRow.laid W → Is_int W v0 → Is_string W v1 → Calls Tryz.prog 3 #[v0, v1] W fun e w' => e = .returned (.bool true) ∧ Below W.heap.size W w') : Rows.HouseNilCardSaid :=
  Claim7.holds_tied_plain_at .later [] _ _ _ _ (said_houseNil walk) (fun _ h => by cases h) (by kernel_rfl) (fun _ h => by cases h) houseNil_row_tie rfl ⟨rfl, rfl⟩ (by kernel_rfl) rfl plain_houseNil (by kernel_rfl)
end
theorem houseNil_proved : Rows.HouseNilCardSaid := over_houseNil fun W _ _ _ ⟨n, e0, _⟩ ⟨s, e1, _⟩ => by
  subst e0; subst e1
  exact law_houseNil n s W
end Go.Proofs.YtfnephepcinigaaGreatDoor
