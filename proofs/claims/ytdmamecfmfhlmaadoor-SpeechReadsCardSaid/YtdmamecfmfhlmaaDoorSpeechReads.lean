/-
  For every line, speech.Read answers what the document's ReadRequest answers, wherever the document's tables of verbs and forms read as they are listed.
-/
import Derived.Test.YtdmamecfmfhlmaaDoorReadAny
import Derived.Test.YtdmamecfmfhlmaaDoorRefAskAny
import Derived.Test.YtdmamecfmfhlmaaDoorSameReq
import Derived.Test.YtdmamecfmfhlmaaDoorCard
import Derived.Stop.LaidErr
namespace Go.Proofs.YtdmamecfmfhlmaaDoor
set_option maxRecDepth 100000
open Go.RowKit

theorem names_of {W : World} {x y z u : String × DataW Unit} {r : List (String × DataW Unit)} (h : laidMet Tryd.prog (x :: y :: z :: u :: ("lifelodge/lifelodgeref.verbNames", .slice (namesT.map fun b => .lit (.string b)) []) :: r) W) : StrsAt W.heap.size W 0 namesT :=
  strs_of_head (t := 80) (by kernel_rfl) (by kernel_rfl) Tryd.underlying80 Tryd.underlying9 (by kernel_rfl) (by decide) (laidMet.tail (laidMet.tail (laidMet.tail (laidMet.tail h))))
theorem forms_of {W : World} {x y z u v : String × DataW Unit} {r : List (String × DataW Unit)} (h : laidMet Tryd.prog (x :: y :: z :: u :: v :: ("lifelodge/lifelodgeref.form", .slice (formsT.map fun b => .lit (.string b)) []) :: r) W) : StrsAt W.heap.size W 1 formsT :=
  strs_of_head (t := 80) (by kernel_rfl) (by kernel_rfl) Tryd.underlying80 Tryd.underlying9 (by kernel_rfl) (by decide) (laidMet.tail (laidMet.tail (laidMet.tail (laidMet.tail (laidMet.tail h)))))
theorem ask_clean : askF [99, 108, 101, 97, 110] = (0, ⟨10, [], [], 0, 0, 0, []⟩) := by kernel_rfl
theorem CellsAt.sl {base : Nat} {w : World} {a : Option Addr} {c : Nat} {zs : List (Int × Int)} (h : CellsAt base w (.slice a zs.length c) zs) (hb : zs.length ≤ 6001) : Sl w 2 16 a zs.length c (zs.flatMap encCell) := by
  obtain ⟨a', c', e, hs⟩ := h.1.sl (bytes := 16) (by omega)
  simp only [Value.slice.injEq, true_and] at e
  obtain ⟨rfl, rfl⟩ := e
  exact hs
set_option maxHeartbeats 4000000 in
theorem law_speechReads (C : List UInt8) (w : World) (hVN : StrsAt w.heap.size w 0 namesT) (hFM : StrsAt w.heap.size w 1 formsT) :
    Calls Tryd.prog 6 #[.string (txt C)] w fun e w' => e = .returned (.bool true) ∧ Below w.heap.size w w' := by
  have hfew := ask_few C
  have H1 := Lib.hid (fun W => read_any_line C W)
  have H2 := Lib.hid (fun W (hW : Below w.heap.size w W) => refAsk_any w.heap.size C W hW.size (hVN.on hW) (hFM.on hW))
  have H3 := Lib.hid (fun W => read_any_line [99, 108, 101, 97, 110] W)
  rw [ask_clean] at H3
  obtain ⟨⟨er, qv, qn, qo, qb, ql, qx, zs⟩, hx⟩ : ∃ x, x = askF C := ⟨_, rfl⟩
  rw [← hx] at H1 H2 hfew
  dsimp only at hfew
  obtain ⟨S, hS⟩ : ∃ S, S = txt C := ⟨_, rfl⟩
  rw [← hS] at H1 H2
  rw [← hS]
  have hcl : (txt [99, 108, 101, 97, 110]) = ({ data := #[99, 108, 101, 97, 110] } : ByteArray) := rfl
  rw [hcl] at H3
  obtain ⟨N, hN⟩ : ∃ N, N = txt qn := ⟨_, rfl⟩
  obtain ⟨O, hO⟩ : ∃ O, O = txt qo := ⟨_, rfl⟩
  have HSR := Lib.hid (fun W a a' c c' (h1 : Sl W 2 16 a zs.length c (zs.flatMap encCell)) (h2 : Sl W 2 16 a' zs.length c' (zs.flatMap encCell)) => sameReq_any ⟨qv, qn, qo, qb, ql, qx, zs⟩ a a' c c' W h1 h2)
  unfold Ask.cells' at HSR
  dsimp only at HSR
  rw [← hN, ← hO] at HSR
  have HN := Lib.hid hN
  have HO := Lib.hid hO
  clear hx hS hcl hVN hFM hN hO
  go_enter Tryd.func6, Tryd.ntmps6
  go_wp2_with fail
  refine (H1.out _).mono ?_
  rintro e w1 ⟨cv1, rfl, hb1, hc1⟩
  obtain ⟨a1, c1, rfl, -⟩ := hc1.1.form
  have HC1 := Lib.hid hc1
  have HB1 := Lib.hid hb1
  unfold Ask.cells'
  dsimp only
  rw [← HN.out, ← HO.out]
  clear hb1 hc1
  have hs1 := HB1.out.size
  go_wp2_with fail
  refine (H2.out _ (HB1.out.alloc HB1.out.size _)).mono ?_
  rintro e w2 ⟨cv2, rfl, hb2, hc2⟩
  obtain ⟨a2, c2, rfl, -⟩ := hc2.1.form
  have x2 : w2.heap[w1.heap.size]? = some (.cells #[.int .i64 qv, .string N, .string O, .int .i64 qb, .int .i64 ql, .int .i64 qx, .slice a1 zs.length c1] 47 (0, 0)) := (hb2.block _ (by simp)).trans (blk_last w1 _ rfl)
  have HX2 := Lib.hid x2
  have HC2 := Lib.hid hc2
  have HC1b := Lib.hid ((HC1.out.below ((Below.refl _ _).alloc (Nat.le_refl _) (.cells #[.int .i64 qv, .string N, .string O, .int .i64 qb, .int .i64 ql, .int .i64 qx, .slice a1 zs.length c1] 47))).below hb2)
  have hs2 := hb2.size
  have hz1 : (w1.alloc (.cells #[.int .i64 qv, .string N, .string O, .int .i64 qb, .int .i64 ql, .int .i64 qx, .slice a1 zs.length c1] 47)).heap.size = w1.heap.size + 1 := by simp
  have HB2 := Lib.hid ((HB1.out.alloc HB1.out.size (.cells #[.int .i64 qv, .string N, .string O, .int .i64 qb, .int .i64 ql, .int .i64 qx, .slice a1 zs.length c1] 47)).trans (hb2.mono (by rw [hz1]; omega)))
  rw [hz1] at hs2
  unfold Ask.cells'
  dsimp only
  rw [← HN.out, ← HO.out]
  clear hb2 hc2 x2 hz1
  go_wp2_with fail
  refine (H3.out _).mono ?_
  rintro e w3 ⟨cv3, rfl, hb3, hc3⟩
  obtain ⟨a3, c3, rfl, -⟩ := hc3.1.form
  have x3 : w3.heap[w2.heap.size]? = some (.cells #[.int .i64 qv, .string N, .string O, .int .i64 qb, .int .i64 ql, .int .i64 qx, .slice a2 zs.length c2] 47 (0, 0)) := (hb3.block _ (by simp)).trans (blk_last w2 _ rfl)
  have x3' : w3.heap[w1.heap.size]? = some (.cells #[.int .i64 qv, .string N, .string O, .int .i64 qb, .int .i64 ql, .int .i64 qx, .slice a1 zs.length c1] 47 (0, 0)) := ((hb3.block _ (by simp; omega)).trans (Below.heap_alloc w2 _ _ (by omega))).trans HX2.out
  have HC2b := Lib.hid ((HC2.out.below ((Below.refl _ _).alloc (Nat.le_refl _) (.cells #[.int .i64 qv, .string N, .string O, .int .i64 qb, .int .i64 ql, .int .i64 qx, .slice a2 zs.length c2] 47))).below hb3)
  have HC1c := Lib.hid ((HC1b.out.below ((Below.refl _ _).alloc (Nat.le_refl _) (.cells #[.int .i64 qv, .string N, .string O, .int .i64 qb, .int .i64 ql, .int .i64 qx, .slice a2 zs.length c2] 47))).below hb3)
  have hz2 : (w2.alloc (.cells #[.int .i64 qv, .string N, .string O, .int .i64 qb, .int .i64 ql, .int .i64 qx, .slice a2 zs.length c2] 47)).heap.size = w2.heap.size + 1 := by simp
  have hs3 := hb3.size
  have HB3 := Lib.hid ((HB2.out.alloc HB2.out.size (.cells #[.int .i64 qv, .string N, .string O, .int .i64 qb, .int .i64 ql, .int .i64 qx, .slice a2 zs.length c2] 47)).trans (hb3.mono (by rw [hz2]; omega)))
  rw [hz2] at hs3
  unfold Ask.cells'
  dsimp only
  have hl2 := lt_of_block x3
  have hl1 := lt_of_block x3'
  obtain ⟨⟨k0, k1, k2, k3, k4, k5, k6⟩, -⟩ := seven x3
  obtain ⟨⟨m0, m1, m2, m3, m4, m5, m6⟩, -⟩ := seven x3'
  clear hb3 hc3 hz2 x3 x3'
  go_wp2_with fail
  refine (HSR.out _ _ _ _ _ ((HC1c.out.below ((Below.refl _ _).alloc (Nat.le_refl _) _)).sl hfew) ((HC2b.out.below ((Below.refl _ _).alloc (Nat.le_refl _) _)).sl hfew)).mono ?_
  rintro e w5 ⟨rfl, hb5⟩
  have x5 := (hb5.block w3.heap.size (by simp)).trans (blk_last w3 _ rfl)
  have y0 := Joins.cell_of_block x5 0
  simp at y0
  have hz3 := hb5.size
  have HB5 := Lib.hid ((HB3.out.alloc HB3.out.size _).trans (hb5.mono (Nat.le_trans HB3.out.size (by simp))))
  clear hb5 x5
  go_wp2_with fail
  go_ret
  exact ⟨rfl, HB5.out⟩
section
open Go.ChangeShapes Go.WideShapes Go.ChangeAt
noncomputable def laidWorld_speechReads (os : Os) : World := { World.holding Tryd.prog os ⟨#[], #[], []⟩ with heap := (pushErr 8 205 207 [105, 110, 118, 97, 108, 105, 100, 32, 115, 121, 110, 116, 97, 120] (pushErr 9 205 207 [118, 97, 108, 117, 101, 32, 111, 117, 116, 32, 111, 102, 32, 114, 97, 110, 103, 101] (pushRow 1 9 Rows.laid_lifelodge_lifelodgeref_form (pushRow 0 9 Rows.laid_lifelodge_lifelodgeref_verbNames ((((((World.holding Tryd.prog os ⟨#[], #[], []⟩).heap).modify 4 (laidIn (tabV Rows.laid_math_bits_deBruijn32tab))).modify 5 (laidIn (tabV Rows.laid_math_bits_deBruijn64tab))).modify 2 (laidIn (tabV Rows.laid_internal_strconv_uint64pow10))).modify 7 (laidIn (tabV Rows.laid_unicode_utf8_acceptRanges))))))).modify 6 (laidIn (tabV Rows.laid_unicode_utf8_first)) }
set_option maxRecDepth 100000 in
theorem laidMet_speechReads (os : Os) : laidMet Tryd.prog Rows.speechReadsRow.laid ((laidWorld_speechReads os).forCall (fun _ _ => 0) ⟨#[], #[.string ⟨#[]⟩], []⟩).memory := laidMet_of_run' 8 (by kernel_rfl) (by kernel_rfl)
set_option maxRecDepth 100000 in
theorem reads_speechReads (os : Os) {H : Type} (enc : TypeId × Value → H) : ∃ places, DataW.whole enc Tryd.prog ((laidWorld_speechReads os).forCall (fun _ _ => 0) ⟨#[], #[.string ⟨#[]⟩], []⟩).memory Tryd.f6.params.toList Rows.speechReadsSpec.vars false #[.string ⟨#[]⟩].toList 8 = some ([.lit (.string [])], [], places) := ⟨[], by kernel_rfl⟩
set_option maxRecDepth 100000 in
theorem lifted_speechReads (os : Os) (started : os.Started) (H : Type) (enc : TypeId × Value → H) (F : Stop.Interp) (walk : ∀ (W : World) (v0 : Value), laidMetH Tryd.prog Rows.speechReadsRow.laid W → Is_string W v0 → Calls Tryd.prog 6 #[v0] W fun e w' => e = .returned (.bool true) ∧ Below W.heap.size W w') :
    ReturnsInHanded {} Tryd.checked os 6 .any ((OpenSpec.ofChange Rows.speechReadsSpec).preRow enc Tryd.prog Tryd.f6 Rows.speechReadsRow.domain false Rows.speechReadsRow.laid) (((OpenSpec.ofChange Rows.speechReadsSpec).at F).post enc Tryd.prog Tryd.f6 false true false false) := by
  obtain ⟨places, hx⟩ := reads_speechReads os enc
  refine returnsInHanded_of_row (C := Tryd.checked) (s := (OpenSpec.ofChange Rows.speechReadsSpec)) own started (by kernel_rfl) Tryd.func6
    (witness_row_ref (enc := enc) (C := Tryd.checked) false (laidWorld_speechReads os) #[.string ⟨#[]⟩] rfl (by kernel_rfl) (by kernel_rfl) (by kernel_rfl)
      (OpenSpec.preRow_of_cond 8 hx (by kernel_rfl) (fun k hk => by cases hk) (by kernel_rfl) (laidMet_speechReads os))) ?_
  intro W base args ds gs before hval0 hW hcnd hk hsz0 hL _ _
  have hval : ∀ (j : Nat) t v, Tryd.f6.params[j]? = some t → args[j]? = some v → Value.okWide Tryd.prog W .any base t v := hval0
  have hW' := hW
  obtain ⟨p, q, hA0, hV, rfl, hfz, hnd⟩ := hW
  have hA : DataW.TrodAll enc Tryd.prog W 0 (fun _ => true) true Tryd.f6.params.toList args.toList ds p := hA0
  rw [Tryd.params6] at hA hval
  obtain ⟨rfl, rfl⟩ := trodVars_none hV
  have hB := hA
  obtain ⟨v0, vs0, d0, ds0, p0, q0, hargs, rfl, rfl, h0, r0⟩ := trodAll_cons hA
  obtain ⟨rfl, rfl, rfl⟩ := trodAll_nil r0
  obtain rfl : args = #[v0] := by cases args; simp_all
  have hsz : (DataW.weightsEach Tryd.prog [9] [d0]).all (· ≤ reachBytes) = true := hsz0
  have i0 := open_string (hval 0 9 v0 rfl rfl) h0 (weights_le hsz 0 rfl rfl)
  refine (walk W v0 hL i0).mono fun e W' ⟨he, bel⟩ => ?_
  subst he
  exact ⟨_, rfl, _, _, _, [], _, [], hW', trodAll_mk1 (shut_bool Tryd.underlying4 _), trodAll_below laidOut (by kernel_rfl) hB bel, rfl, bel.frame _, fun h => by cases h⟩
theorem said_speechReads (walk : ∀ (W : World) (v0 : Value), laidMetH Tryd.prog Rows.speechReadsRow.laid W → Is_string W v0 → Calls Tryd.prog 6 #[v0] W fun e w' => e = .returned (.bool true) ∧ Below W.heap.size W w') : Rows.speechReadsRow.holds Tryd.pinned (OpenSpec.ofChange Rows.speechReadsSpec) :=
  OpenClaim.holds_of_cond 6 Tryd.f6 rfl rfl rfl rfl rfl rfl rfl ⟨rfl, rfl, rfl, rfl, rfl⟩ rfl rfl rfl rfl rfl (by kernel_rfl) Tryd.func6 (by kernel_rfl)
    (of_decide_eq_true (by kernel_rfl)) (by unfold Func.isWrapper; first | (rw [if_pos (by decide +kernel)]; kernel_rfl) | (rw [if_neg (by decide +kernel)]; exact ⟨rfl, rfl⟩))
    (fun os started H enc _ F => by rw [OpenClaim.pre_eq_preRow]; exact lifted_speechReads os started H enc F walk)
theorem plain_speechReads (f : FuncId) (fn : Func) (hf : Tryd.pinned.checked.prog.funcNamed "lifelodge/lifelodgelaw.SpeechReads" = some f) (hfn : Tryd.pinned.checked.prog.funcs[f]? = some fn) :
    true = Tryd.pinned.checked.prog.looks [] ∧ ∀ (j : Nat) t, fn.params[j]? = some t → Tryd.pinned.checked.prog.wantsStandIn t = false := by
  obtain rfl : f = 6 := Option.some.inj ((show Tryd.prog.funcNamed "lifelodge/lifelodgelaw.SpeechReads" = some 6 by kernel_rfl).symm.trans hf) |>.symm
  obtain rfl : fn = Tryd.f6 := (Option.some.inj (Tryd.func6.symm.trans hfn)).symm
  refine ⟨by kernel_rfl, fun j t ht => ?_⟩
  rw [Tryd.params6] at ht
  have hall : ∀ t ∈ [9], Tryd.prog.wantsStandIn t = false := by
    intro t ht
    simp only [List.mem_cons, List.not_mem_nil, or_false] at ht
    rcases ht with rfl <;> kernel_rfl
  exact hall t (by simpa using Array.mem_of_getElem? ht)
theorem over_speechReads (walk : ∀ (W : World) (v0 : Value), laidMetH Tryd.prog Rows.speechReadsRow.laid W → Is_string W v0 → Calls Tryd.prog 6 #[v0] W fun e w' => e = .returned (.bool true) ∧ Below W.heap.size W w') : Rows.SpeechReadsCardSaid :=
  Claim7.holds_tied_plain_at .later [] _ _ _ _ (said_speechReads walk) (fun _ h => by cases h) (by kernel_rfl) (fun _ h => by cases h) speechReads_row_tie rfl ⟨rfl, rfl⟩ (by kernel_rfl) rfl plain_speechReads (by kernel_rfl)
end
theorem speechReads_proved : Rows.SpeechReadsCardSaid := over_speechReads fun W _ hl ⟨s, e1, _⟩ => by
  subst e1
  rw [show s = txt s.data.toList from (txt_eta s).symm]
  exact law_speechReads s.data.toList W (names_of hl) (forms_of hl)
end Go.Proofs.YtdmamecfmfhlmaaDoor
