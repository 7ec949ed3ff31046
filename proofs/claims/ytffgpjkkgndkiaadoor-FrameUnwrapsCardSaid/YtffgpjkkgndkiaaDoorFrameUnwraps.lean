/-
  For all texts, frame.Unwrap answers what the document's UnwrapTexts answers. Condition: the listed package-level variables hold what the program's text lays (the card ties them).
-/
import Derived.Test.YtffgpjkkgndkiaaDoorUnwrapRef
import Derived.Test.YtffgpjkkgndkiaaDoorCard
namespace Go.Proofs.YtffgpjkkgndkiaaDoor
set_option maxRecDepth 100000
open Go.RowKit

theorem unwrapped_of {w w' : World} {l : List UInt8} {e : Ending} {ts : List (List UInt8)} {er : Int} (hr : (ts, er) = unwRes l) (h : Unwrapped w l e w') :
    ∃ a c, e = .returned (.tuple #[.slice a ts.length c, .int .i64 er]) ∧ Below w.heap.size w w' ∧ TextsOf w.heap.size w' (.slice a ts.length c) ts := by
  obtain ⟨v, he, hb, ht⟩ := h
  rw [← hr] at he ht
  obtain ⟨a, c, rfl⟩ := ht.form
  exact ⟨a, c, he, hb, ht⟩
theorem unwRes_a : unwRes (wrapF [97]) = ([[97]], 0) := by
  have h := unwF_wraps [[97]]
  have e : wrapsF [[97]] = wrapF [97] := by simp [wrapsF]
  rw [e] at h
  exact unwRes_some (by rw [unwrapF, if_neg (by rw [wrapF_short (by simp), frameOf_length 0 (by simp)]; simp), h])
set_option maxHeartbeats 2000000 in
theorem law_unwraps (l : List UInt8) (w : World) (hl : l.length ≤ 140737488351232) :
    Calls Tryd.prog 5 #[.string (txt l)] w fun e w' => e = .returned (.bool true) ∧ Below w.heap.size w w' := by
  obtain ⟨⟨ts, er⟩, hR⟩ : ∃ R, R = unwRes l := ⟨_, rfl⟩
  have hc : 128 * ts.length ≤ l.length := by have := unwRes_count l; rw [← hR] at this; exact this
  have HR := Lib.hid hR
  clear hR
  obtain ⟨S, hS⟩ : ∃ S, S = txt l := ⟨_, rfl⟩
  have hu1 := fun W => unwrap_any l W hl
  have hu2 := fun W => refUnwrap_any l W hl
  rw [← hS] at hu1 hu2 ⊢
  have H1 := Lib.hid hu1
  have H2 := Lib.hid hu2
  clear hu1 hu2 hS
  obtain ⟨A, hA⟩ : ∃ A, A = txt (wrapF [97]) := ⟨_, rfl⟩
  have hw3 : ∀ V : World, Calls Tryd.prog 16 #[.string ⟨#[97]⟩] V fun e w' => e = .returned (.string A) ∧ Below V.heap.size V w' := fun V => by
    rw [hA]; exact refWrap_any [97] V (by simp)
  have hw4 : ∀ V : World, Calls Tryd.prog 14 #[.string A] V (Unwrapped V (wrapF [97])) := fun V => by
    rw [hA]; exact unwrap_any (wrapF [97]) V (by rw [wrapF_short (by simp), frameOf_length 0 (by simp)]; omega)
  have H3 := Lib.hid hw3
  have H4 := Lib.hid hw4
  clear hw3 hw4 hA
  go_enter Tryd.func5, Tryd.ntmps5
  go_wp2_with fail
  refine (H1.out _).mono ?_
  intro e w2 h2
  obtain ⟨a2, c2, rfl, hb2, ht2⟩ := unwrapped_of HR.out h2
  have T2 := Lib.hid ht2
  clear h2 ht2
  go_wp2_with fail
  refine (H2.out _).mono ?_
  intro e w3 h3
  obtain ⟨a3, c3, rfl, hb3, ht3⟩ := unwrapped_of HR.out h3
  have hB3 := hb2.trans (hb3.mono hb2.size)
  have T3 := Lib.hid ht3
  clear h3 ht3
  go_wp2_with fail
  refine (H3.out _).mono ?_
  rintro e w4 ⟨rfl, hb4⟩
  have hB4 := hB3.trans (hb4.mono hB3.size)
  go_wp2_with fail
  refine (H4.out _).mono ?_
  intro e w5 h5
  obtain ⟨a5, c5, rfl, hb5, ht5⟩ := unwrapped_of (ts := [[97]]) (er := 0) unwRes_a.symm h5
  have hB5 := hB4.trans (hb5.mono hB4.size)
  have S2 := Lib.hid ((((T2.out.below hb3).below hb4).below hb5).sl (by omega))
  have S3 := Lib.hid (((T3.out.below hb4).below hb5).sl (by omega))
  have hz := hB5.size
  clear h5 ht5
  go_wp2_with fail
  refine (sameTexts_any ts _ _ _ _ _ S2.out S3.out).mono ?_
  rintro e w6 ⟨rfl, hb6⟩
  go_wp2_with fail
  go_ret
  exact ⟨by simp, hB5.trans (hb6.mono hz)⟩
section
open Go.ChangeShapes Go.WideShapes Go.ChangeAt
noncomputable def laidWorld_frameUnwraps (os : Os) : World := { World.holding Tryd.prog os ⟨#[], #[], []⟩ with heap := (((World.holding Tryd.prog os ⟨#[], #[], []⟩).heap).modify 3 (laidIn (tabV Rows.laid_unicode_utf8_acceptRanges))).modify 2 (laidIn (tabV Rows.laid_unicode_utf8_first)) }
set_option maxRecDepth 100000 in
theorem laidMet_frameUnwraps (os : Os) : laidMet Tryd.prog Rows.frameUnwrapsRow.laid ((laidWorld_frameUnwraps os).forCall (fun _ _ => 0) ⟨#[], #[.string ⟨#[]⟩], []⟩).memory := laidMet_of_run' 8 (by kernel_rfl) (by kernel_rfl)
set_option maxRecDepth 100000 in
theorem reads_frameUnwraps (os : Os) {H : Type} (enc : TypeId × Value → H) : ∃ places, DataW.whole enc Tryd.prog ((laidWorld_frameUnwraps os).forCall (fun _ _ => 0) ⟨#[], #[.string ⟨#[]⟩], []⟩).memory Tryd.f5.params.toList Rows.frameUnwrapsSpec.vars false #[.string ⟨#[]⟩].toList 8 = some ([.lit (.string [])], [], places) := ⟨[], by kernel_rfl⟩
set_option maxRecDepth 100000 in
theorem lifted_frameUnwraps (os : Os) (started : os.Started) (H : Type) (enc : TypeId × Value → H) (F : Stop.Interp) (walk : ∀ (W : World) (v0 : Value), laidMetH Tryd.prog Rows.frameUnwrapsRow.laid W → Is_string W v0 → Calls Tryd.prog 5 #[v0] W fun e w' => e = .returned (.bool true) ∧ Below W.heap.size W w') :
    ReturnsInHanded {} Tryd.checked os 5 .any ((OpenSpec.ofChange Rows.frameUnwrapsSpec).preRow enc Tryd.prog Tryd.f5 Rows.frameUnwrapsRow.domain false Rows.frameUnwrapsRow.laid) (((OpenSpec.ofChange Rows.frameUnwrapsSpec).at F).post enc Tryd.prog Tryd.f5 false true false false) := by
  obtain ⟨places, hx⟩ := reads_frameUnwraps os enc
  refine returnsInHanded_of_row (C := Tryd.checked) (s := (OpenSpec.ofChange Rows.frameUnwrapsSpec)) own started (by kernel_rfl) Tryd.func5
    (witness_row_at (enc := enc) (C := Tryd.checked) false (laidWorld_frameUnwraps os) #[.string ⟨#[]⟩] rfl (by kernel_rfl) (by kernel_rfl) (by kernel_rfl)
      (OpenSpec.preRow_of_cond 8 hx (by kernel_rfl) (fun k hk => by cases hk) (by kernel_rfl) (laidMet_frameUnwraps os))) ?_
  intro W base args ds gs before hval0 hW hcnd hk hsz0 hL _ _
  have hval : ∀ (j : Nat) t v, Tryd.f5.params[j]? = some t → args[j]? = some v → Value.okWide Tryd.prog W .any base t v := hval0
  have hW' := hW
  obtain ⟨p, q, hA0, hV, rfl, hfz, hnd⟩ := hW
  have hA : DataW.TrodAll enc Tryd.prog W 0 (fun _ => true) true Tryd.f5.params.toList args.toList ds p := hA0
  rw [Tryd.params5] at hA hval
  obtain ⟨rfl, rfl⟩ := trodVars_none hV
  have hB := hA
  obtain ⟨v0, vs0, d0, ds0, p0, q0, hargs, rfl, rfl, h0, r0⟩ := trodAll_cons hA
  obtain ⟨rfl, rfl, rfl⟩ := trodAll_nil r0
  obtain rfl : args = #[v0] := by cases args; simp_all
  have hsz : (DataW.weightsEach Tryd.prog [9] [d0]).all (· ≤ reachBytes) = true := hsz0
  have i0 := open_string (hval 0 9 v0 rfl rfl) h0 (weights_le hsz 0 rfl rfl)
  refine (walk W v0 hL i0).mono fun e W' ⟨he, bel⟩ => ?_
  subst he
  exact ⟨_, rfl, _, _, _, [], _, [], hW', trodAll_mk1 (shut_bool Tryd.underlying4 _), trodAll_below laidOut (by kernel_rfl) hB bel, rfl, bel.frame _, fun h => by cases h⟩
theorem said_frameUnwraps (walk : ∀ (W : World) (v0 : Value), laidMetH Tryd.prog Rows.frameUnwrapsRow.laid W → Is_string W v0 → Calls Tryd.prog 5 #[v0] W fun e w' => e = .returned (.bool true) ∧ Below W.heap.size W w') : Rows.frameUnwrapsRow.holds Tryd.pinned (OpenSpec.ofChange Rows.frameUnwrapsSpec) :=
  OpenClaim.holds_of_cond 5 Tryd.f5 rfl rfl rfl rfl rfl rfl rfl ⟨rfl, rfl, rfl, rfl, rfl⟩ rfl rfl rfl rfl rfl (by kernel_rfl) Tryd.func5 (by kernel_rfl)
    (of_decide_eq_true (by kernel_rfl)) (by unfold Func.isWrapper; first | (rw [if_pos (by decide +kernel)]; kernel_rfl) | (rw [if_neg (by decide +kernel)]; exact ⟨rfl, rfl⟩))
    (fun os started H enc _ F => by rw [OpenClaim.pre_eq_preRow]; exact lifted_frameUnwraps os started H enc F walk)
theorem plain_frameUnwraps (f : FuncId) (fn : Func) (hf : Tryd.pinned.checked.prog.funcNamed "lifelodge/lifelodgelaw.FrameUnwraps" = some f) (hfn : Tryd.pinned.checked.prog.funcs[f]? = some fn) :
    false = Tryd.pinned.checked.prog.looks [] ∧ ∀ (j : Nat) t, fn.params[j]? = some t → Tryd.pinned.checked.prog.wantsStandIn t = false := by
  obtain rfl : f = 5 := Option.some.inj ((show Tryd.prog.funcNamed "lifelodge/lifelodgelaw.FrameUnwraps" = some 5 by kernel_rfl).symm.trans hf) |>.symm
  obtain rfl : fn = Tryd.f5 := (Option.some.inj (Tryd.func5.symm.trans hfn)).symm
  refine ⟨by kernel_rfl, fun j t ht => ?_⟩
  rw [Tryd.params5] at ht
  have hall : ∀ t ∈ [9], Tryd.prog.wantsStandIn t = false := by
    intro t ht
    simp only [List.mem_cons, List.not_mem_nil, or_false] at ht
    rcases ht with rfl <;> kernel_rfl
  exact hall t (by simpa using Array.mem_of_getElem? ht)
theorem over_frameUnwraps (walk : ∀ (W : World) (v0 : Value), laidMetH Tryd.prog Rows.frameUnwrapsRow.laid W → Is_string W v0 → Calls Tryd.prog 5 #[v0] W fun e w' => e = .returned (.bool true) ∧ Below W.heap.size W w') : Rows.FrameUnwrapsCardSaid :=
  Claim7.holds_tied_plain_at .later [] _ _ _ _ (said_frameUnwraps walk) (fun _ h => by cases h) (by kernel_rfl) (fun _ h => by cases h) frameUnwraps_row_tie rfl ⟨rfl, rfl⟩ (by kernel_rfl) rfl plain_frameUnwraps (by kernel_rfl)
end
theorem frameUnwraps_proved : Rows.FrameUnwrapsCardSaid := over_frameUnwraps fun W _ _ ⟨s, e1, hs⟩ => by
  subst e1
  have h := law_unwraps s.data.toList W (by simpa using hs)
  rw [txt_eta] at h
  exact h
end Go.Proofs.YtffgpjkkgndkiaaDoor
