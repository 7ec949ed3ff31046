/-
  For all verbs and answers, speech.Tell answers what the document's TellAnswer answers, wherever the library's table of powers of ten reads as it is listed.
-/
import Derived.Test.YtdmamecfmfhlmaaDoorTells
import Derived.Test.YtdmamecfmfhlmaaDoorRefTells
import Derived.Test.YtdmamecfmfhlmaaDoorCard
import Derived.Stop.LaidErr
namespace Go.Proofs.YtdmamecfmfhlmaaDoor
set_option maxRecDepth 100000
open Go.RowKit

theorem tab_of {W : World} {x y : String × DataW Unit} {r : List (String × DataW Unit)} (h : laidMet Tryd.prog (x :: y :: ("internal/strconv.uint64pow10", Lib.tabData .u64 Lib.pow10Tab) :: r) W) : Tab W.heap.size W :=
  Lib.tabBelow_of_tabIs (Lib.tabIs_of_head (g := 2) (t := 155) (by kernel_rfl) (by kernel_rfl) Tryd.underlying155 Tryd.underlying54 (by kernel_rfl) (by kernel_rfl) (laidMet.tail (laidMet.tail h)))
set_option maxHeartbeats 4000000 in
theorem law_tells (verb code n x0 y0 x1 y1 rb rl : Int) (key : ByteArray) (zs : List (Int × Int)) (a : Option Addr) (cap : Nat) (w : World) (hs : Sl w 2 16 a zs.length cap (zs.flatMap encCell)) (hz : ∀ z ∈ zs, GoodCell z)
    (hq : AnsD.Good ⟨code, n, x0, y0, x1, y1, rb, rl, key⟩) (ht : Tab w.heap.size w) :
    Calls Tryd.prog 5 #[.int .i64 verb, .agg #[.int .i64 code, .int .i64 n, .int .i64 x0, .int .i64 y0, .int .i64 x1, .int .i64 y1, .int .i64 rb, .int .i64 rl, .string key, .slice a zs.length cap]] w fun e w' => e = .returned (.bool true) ∧ Below w.heap.size w w' := by
  have hwide := hs.wide
  obtain ⟨⟨T, er⟩, hT⟩ : ∃ R, R = tellF verb ⟨code, n, x0, y0, x1, y1, rb, rl, key⟩ zs := ⟨_, rfl⟩
  have hcc : ∀ W, Below w.heap.size w W → Calls Tryd.prog 12 #[.slice a zs.length cap] W fun e w' => ∃ a1 c1, e = .returned (.slice a1 zs.length c1) ∧ Below W.heap.size W w' ∧ Sl w' 2 16 a1 zs.length c1 (zs.flatMap encCell) ∧ ∀ b o x, a1 = some ⟨b, o, x⟩ → W.heap.size ≤ b := fun W hb => by
    refine (cells_any zs a cap W (hs.below (by omega) hb)).mono ?_
    rintro e w1 ⟨v1, rfl, hb1, ho1⟩
    obtain ⟨a1, c1, rfl⟩ := own_form ho1
    exact ⟨a1, c1, rfl, hb1, sl_own_up (bytes := 16) ho1 (by omega) hwide (Below.refl _ _), fun b o x e => by subst e; exact (ho1.lt b rfl).1⟩
  have he : ∀ W a c, Below w.heap.size w W → Sl W 2 16 a zs.length c (zs.flatMap encCell) → Calls Tryd.prog 16 #[.int .i64 verb, .agg #[.int .i64 code, .int .i64 n, .int .i64 x0, .int .i64 y0, .int .i64 x1, .int .i64 y1, .int .i64 rb, .int .i64 rl, .string key, .slice a zs.length c]] W fun e w' => e = .returned (.tuple #[.string T, .int .i64 er]) ∧ Below W.heap.size W w' := fun W a c h h' =>
    (tell_any w.heap.size verb code n x0 y0 x1 y1 rb rl key zs a c W h' hz hq (ht.on h) h.size).mono fun e w' ⟨h1, h2⟩ => ⟨by rw [h1, ← hT], h2⟩
  have hr : ∀ W, Below w.heap.size w W → Calls Tryd.prog 17 #[.int .i64 verb, .agg #[.int .i64 code, .int .i64 n, .int .i64 x0, .int .i64 y0, .int .i64 x1, .int .i64 y1, .int .i64 rb, .int .i64 rl, .string key, .slice a zs.length cap]] W fun e w' => e = .returned (.tuple #[.string T, .int .i64 er]) ∧ Below W.heap.size W w' := fun W h =>
    (refTell_any verb code n x0 y0 x1 y1 rb rl key zs a cap W (hs.below (by omega) h) hz hq).mono fun e w' ⟨h1, h2⟩ => ⟨by rw [h1, ← hT], h2⟩
  have h3 : ∀ W, Below w.heap.size w W → Calls Tryd.prog 16 #[.int .i64 0, .agg #[.int .i64 0, .int .i64 0, .int .i64 0, .int .i64 0, .int .i64 0, .int .i64 0, .int .i64 0, .int .i64 0, .string ⟨#[]⟩, .slice none 0 0]] W fun e w' => e = .returned (.tuple #[.string ⟨#[111, 107]⟩, .int .i64 0]) ∧ Below W.heap.size W w' := fun W h =>
    (tell_any w.heap.size 0 0 0 0 0 0 0 0 0 ⟨#[]⟩ [] none 0 W ⟨rfl, by simp, by simp [maxLen], fun _ => rfl, by simp, fun hn => by simp at hn⟩ (fun z hz => by cases hz) ⟨by unfold I64; decide, by unfold I64; decide, ⟨by unfold I64; decide, by unfold I64; decide, by unfold I64; decide, by unfold I64; decide⟩, by unfold I64; decide, by unfold I64; decide, by decide⟩ (ht.on h) h.size).mono fun e w' ⟨h1, h2⟩ => ⟨by rw [h1]; rfl, h2⟩
  obtain ⟨m, hm⟩ : ∃ m, m = zs.length := ⟨_, rfl⟩
  rw [← hm] at hcc he hr ⊢
  have HCC := Lib.hid hcc
  have HE := Lib.hid he
  have HR := Lib.hid hr
  have H3 := Lib.hid h3
  obtain ⟨g1, g2, ⟨g3, g4, g5, g6⟩, g7, g8, g9⟩ := hq
  simp only at g1 g2 g3 g4 g5 g6 g7 g8 g9
  clear hs ht hT hcc he hr h3 hm hz g1 g2 g3 g4 g5 g6 g7 g8
  go_enter Tryd.func5, Tryd.ntmps5
  go_wp2_with fail
  obtain ⟨X, hX⟩ : ∃ X, X = (w.alloc (.cells #[.int .i64 code, .int .i64 n, .int .i64 x0, .int .i64 y0, .int .i64 x1, .int .i64 y1, .int .i64 rb, .int .i64 rl, .string key, .slice a m cap] 43)).alloc (.cells #[.int .i64 code, .int .i64 n, .int .i64 x0, .int .i64 y0, .int .i64 x1, .int .i64 y1, .int .i64 rb, .int .i64 rl, .string key, .slice a m cap] 43) := ⟨_, rfl⟩
  have hbX : Below w.heap.size w X := by rw [hX]; exact ((Below.refl _ _).alloc (Nat.le_refl _) _).alloc (by simp) _
  have hXs : X.heap.size = w.heap.size + 2 := by rw [hX]; simp
  have hb0 : X.heap[w.heap.size]? = some (.cells #[.int .i64 code, .int .i64 n, .int .i64 x0, .int .i64 y0, .int .i64 x1, .int .i64 y1, .int .i64 rb, .int .i64 rl, .string key, .slice a m cap] 43 (0, 0)) := by rw [hX]; exact blk_alloc (blk_last w _ rfl) _
  have hb1 : X.heap[w.heap.size + 1]? = some (.cells #[.int .i64 code, .int .i64 n, .int .i64 x0, .int .i64 y0, .int .i64 x1, .int .i64 y1, .int .i64 rb, .int .i64 rl, .string key, .slice a m cap] 43 (0, 0)) := by
    rw [hX]
    have h := blk_last (w.alloc (.cells #[.int .i64 code, .int .i64 n, .int .i64 x0, .int .i64 y0, .int .i64 x1, .int .i64 y1, .int .i64 rb, .int .i64 rl, .string key, .slice a m cap] 43)) (.cells #[.int .i64 code, .int .i64 n, .int .i64 x0, .int .i64 y0, .int .i64 x1, .int .i64 y1, .int .i64 rb, .int .i64 rl, .string key, .slice a m cap] 43) rfl
    simpa using h
  rw [← hX]
  clear hX
  refine (HCC.out X hbX).mono ?_
  rintro e w2 ⟨a1, c1, rfl, hb2, hs2, hge⟩
  have hz2 := hb2.size
  have k0 : w2.heap[w.heap.size]? = _ := (hb2.block _ (by omega)).trans hb0
  have k1 : w2.heap[w.heap.size + 1]? = _ := (hb2.block _ (by omega)).trans hb1
  have c9 := Joins.cell_of_block k1 9
  have f9 : w2.frozen? ⟨w.heap.size + 1, 9, none⟩ = false := Joins.unfrozen_of_block k1 9
  simp at c9
  obtain ⟨Y, hY⟩ : ∃ Y, Y = w2.setCell ⟨w.heap.size + 1, 9, none⟩ (.slice a1 m c1) := ⟨_, rfl⟩
  have l1 := Joins.block_setCell k1 (i := 9) (.slice a1 m c1)
  have l0 := blk_set (a := ⟨w.heap.size + 1, 9, none⟩) k0 (by simp) (.slice a1 m c1)
  rw [← hY] at l1 l0
  have hbY : Below w.heap.size w Y := by rw [hY]; exact (hbX.trans (hb2.mono (by omega))).setCell (by simp) _
  have hrow : 0 < m → ∃ b o, a1 = some ⟨b, o, none⟩ ∧ RowAt Y b o (zs.flatMap encCell) := fun hn => by
    obtain ⟨b, o, e, hr⟩ := hs2.row hn
    refine ⟨b, o, e, fun j u hu => ?_⟩
    have := hge b o none e
    rw [hY, World.cell?_of_block (Below.heap_setCell w2 ⟨w.heap.size + 1, 9, none⟩ _ b (by simp; omega))]
    exact hr j u hu
  have hsY : Sl Y 2 16 a1 m c1 (zs.flatMap encCell) := { hs2 with row := hrow }
  have HL0 := Lib.hid l0
  have HSY := Lib.hid hsY
  have HY := Lib.hid hY
  have d0 := Joins.cell_of_block l1 0
  have d1 := Joins.cell_of_block l1 1
  have d2 := Joins.cell_of_block l1 2
  have d3 := Joins.cell_of_block l1 3
  have d4 := Joins.cell_of_block l1 4
  have d5 := Joins.cell_of_block l1 5
  have d6 := Joins.cell_of_block l1 6
  have d7 := Joins.cell_of_block l1 7
  have d8 := Joins.cell_of_block l1 8
  have d9 := Joins.cell_of_block l1 9
  simp at d0 d1 d2 d3 d4 d5 d6 d7 d8 d9
  have hY' := hY.symm
  clear hb0 hb1 hb2 hs2 k0 k1 l1 l0 hsY hY hge hrow
  go_wp2_with fail
  refine (HE.out Y a1 c1 hbY HSY.out).mono ?_
  rintro e w3 ⟨rfl, hb3⟩
  have hB3 := hbY.trans (hb3.mono hbY.size)
  have l2 : w3.heap[w.heap.size]? = _ := (hb3.block _ (lt_of_block HL0.out)).trans HL0.out
  have e0 := Joins.cell_of_block l2 0
  have e1 := Joins.cell_of_block l2 1
  have e2 := Joins.cell_of_block l2 2
  have e3 := Joins.cell_of_block l2 3
  have e4 := Joins.cell_of_block l2 4
  have e5 := Joins.cell_of_block l2 5
  have e6 := Joins.cell_of_block l2 6
  have e7 := Joins.cell_of_block l2 7
  have e8 := Joins.cell_of_block l2 8
  have e9 := Joins.cell_of_block l2 9
  simp at e0 e1 e2 e3 e4 e5 e6 e7 e8 e9
  clear d0 d1 d2 d3 d4 d5 d6 d7 d8 d9 l2 hY'
  go_wp2_with fail
  refine (HR.out w3 hB3).mono ?_
  rintro e w4 ⟨rfl, hb4⟩
  have hB4 := hB3.trans (hb4.mono hB3.size)
  clear e0 e1 e2 e3 e4 e5 e6 e7 e8 e9
  go_wp2_with fail
  refine (H3.out w4 hB4).mono ?_
  rintro e w5 ⟨rfl, hb5⟩
  have hB5 := hB4.trans (hb5.mono hB4.size)
  go_wp2_with fail
  go_ret
  exact ⟨by simp, hB5⟩
section
open Go.ChangeShapes Go.WideShapes Go.ChangeAt
noncomputable def laidWorld_speechTells (os : Os) : World := { World.holding Tryd.prog os ⟨#[], #[], []⟩ with heap := ((((World.holding Tryd.prog os ⟨#[], #[], []⟩).heap).modify 4 (laidIn (tabV Rows.laid_math_bits_deBruijn32tab))).modify 5 (laidIn (tabV Rows.laid_math_bits_deBruijn64tab))).modify 2 (laidIn (tabV Rows.laid_internal_strconv_uint64pow10)) }
set_option maxRecDepth 100000 in
theorem laidMet_speechTells (os : Os) : laidMet Tryd.prog Rows.speechTellsRow.laid ((laidWorld_speechTells os).forCall (fun _ _ => 0) ⟨#[], #[.int .i64 0, .agg #[.int .i64 0, .int .i64 0, .int .i64 0, .int .i64 0, .int .i64 0, .int .i64 0, .int .i64 0, .int .i64 0, .string ⟨#[]⟩, .slice none 0 0]], []⟩).memory := laidMet_of_run' 8 (by kernel_rfl) (by kernel_rfl)
set_option maxRecDepth 100000 in
theorem reads_speechTells (os : Os) {H : Type} (enc : TypeId × Value → H) : ∃ places, DataW.whole enc Tryd.prog ((laidWorld_speechTells os).forCall (fun _ _ => 0) ⟨#[], #[.int .i64 0, .agg #[.int .i64 0, .int .i64 0, .int .i64 0, .int .i64 0, .int .i64 0, .int .i64 0, .int .i64 0, .int .i64 0, .string ⟨#[]⟩, .slice none 0 0]], []⟩).memory Tryd.f5.params.toList Rows.speechTellsSpec.vars false #[.int .i64 0, .agg #[.int .i64 0, .int .i64 0, .int .i64 0, .int .i64 0, .int .i64 0, .int .i64 0, .int .i64 0, .int .i64 0, .string ⟨#[]⟩, .slice none 0 0]].toList 8 = some ([.lit (.int .i64 0), .agg [.lit (.int .i64 0), .lit (.int .i64 0), .agg [.lit (.int .i64 0), .lit (.int .i64 0), .lit (.int .i64 0), .lit (.int .i64 0)], .agg [.lit (.int .i64 0), .lit (.int .i64 0)], .lit (.string []), .nil]], [], places) := ⟨[], by kernel_rfl⟩
set_option maxRecDepth 100000 in
theorem lifted_speechTells (os : Os) (started : os.Started) (H : Type) (enc : TypeId × Value → H) (F : Stop.Interp) (walk : ∀ (W : World) (v0 : Value) (v1 : Value), laidMetH Tryd.prog Rows.speechTellsRow.laid W → Is_int W v0 → Is_answer W v1 → Calls Tryd.prog 5 #[v0, v1] W fun e w' => e = .returned (.bool true) ∧ Below W.heap.size W w') :
    ReturnsInHanded {} Tryd.checked os 5 .any ((OpenSpec.ofChange Rows.speechTellsSpec).preRow enc Tryd.prog Tryd.f5 Rows.speechTellsRow.domain false Rows.speechTellsRow.laid) (((OpenSpec.ofChange Rows.speechTellsSpec).at F).post enc Tryd.prog Tryd.f5 false true false false) := by
  obtain ⟨places, hx⟩ := reads_speechTells os enc
  refine returnsInHanded_of_row (C := Tryd.checked) (s := (OpenSpec.ofChange Rows.speechTellsSpec)) own started (by kernel_rfl) Tryd.func5
    (witness_row_at (enc := enc) (C := Tryd.checked) false (laidWorld_speechTells os) #[.int .i64 0, .agg #[.int .i64 0, .int .i64 0, .int .i64 0, .int .i64 0, .int .i64 0, .int .i64 0, .int .i64 0, .int .i64 0, .string ⟨#[]⟩, .slice none 0 0]] rfl (by kernel_rfl) (by kernel_rfl) (by kernel_rfl)
      (OpenSpec.preRow_of_cond 8 hx (by kernel_rfl) (fun k hk => by cases hk) (by kernel_rfl) (laidMet_speechTells os))) ?_
  intro W base args ds gs before hval0 hW hcnd hk hsz0 hL _ _
  have hval : ∀ (j : Nat) t v, Tryd.f5.params[j]? = some t → args[j]? = some v → Value.okWide Tryd.prog W .any base t v := hval0
  have hW' := hW
  obtain ⟨p, q, hA0, hV, rfl, hfz, hnd⟩ := hW
  have hA : DataW.TrodAll enc Tryd.prog W 0 (fun _ => true) true Tryd.f5.params.toList args.toList ds p := hA0
  rw [Tryd.params5] at hA hval
  obtain ⟨rfl, rfl⟩ := trodVars_none hV
  have hB := hA
  obtain ⟨v0, vs0, d0, ds0, p0, q0, hargs, rfl, rfl, h0, r0⟩ := trodAll_cons hA
  obtain ⟨v1, vs1, d1, ds1, p1, q1, rfl, rfl, rfl, h1, r1⟩ := trodAll_cons r0
  obtain ⟨rfl, rfl, rfl⟩ := trodAll_nil r1
  obtain rfl : args = #[v0, v1] := by cases args; simp_all
  have hsz : (DataW.weightsEach Tryd.prog [3, 43] [d0, d1]).all (· ≤ reachBytes) = true := hsz0
  have i0 := open_int (hval 0 3 v0 rfl rfl) h0 (weights_le hsz 0 rfl rfl)
  have i1 := open_answer (hval 1 43 v1 rfl rfl) h1 (weights_le hsz 1 rfl rfl)
  refine (walk W v0 v1 hL i0 i1).mono fun e W' ⟨he, bel⟩ => ?_
  subst he
  exact ⟨_, rfl, _, _, _, [], _, [], hW', trodAll_mk1 (shut_bool Tryd.underlying4 _), trodAll_below laidOut (by kernel_rfl) hB bel, rfl, bel.frame _, fun h => by cases h⟩
theorem said_speechTells (walk : ∀ (W : World) (v0 : Value) (v1 : Value), laidMetH Tryd.prog Rows.speechTellsRow.laid W → Is_int W v0 → Is_answer W v1 → Calls Tryd.prog 5 #[v0, v1] W fun e w' => e = .returned (.bool true) ∧ Below W.heap.size W w') : Rows.speechTellsRow.holds Tryd.pinned (OpenSpec.ofChange Rows.speechTellsSpec) :=
  OpenClaim.holds_of_cond 5 Tryd.f5 rfl rfl rfl rfl rfl rfl rfl ⟨rfl, rfl, rfl, rfl, rfl⟩ rfl rfl rfl rfl rfl (by kernel_rfl) Tryd.func5 (by kernel_rfl)
    (of_decide_eq_true (by kernel_rfl)) (by unfold Func.isWrapper; first | (rw [if_pos (by decide +kernel)]; kernel_rfl) | (rw [if_neg (by decide +kernel)]; exact ⟨rfl, rfl⟩))
    (fun os started H enc _ F => by rw [OpenClaim.pre_eq_preRow]; exact lifted_speechTells os started H enc F walk)
theorem plain_speechTells (f : FuncId) (fn : Func) (hf : Tryd.pinned.checked.prog.funcNamed "lifelodge/lifelodgelaw.SpeechTells" = some f) (hfn : Tryd.pinned.checked.prog.funcs[f]? = some fn) :
    true = Tryd.pinned.checked.prog.looks [] ∧ ∀ (j : Nat) t, fn.params[j]? = some t → Tryd.pinned.checked.prog.wantsStandIn t = false := by
  obtain rfl : f = 5 := Option.some.inj ((show Tryd.prog.funcNamed "lifelodge/lifelodgelaw.SpeechTells" = some 5 by kernel_rfl).symm.trans hf) |>.symm
  obtain rfl : fn = Tryd.f5 := (Option.some.inj (Tryd.func5.symm.trans hfn)).symm
  refine ⟨by kernel_rfl, fun j t ht => ?_⟩
  rw [Tryd.params5] at ht
  have hall : ∀ t ∈ [3, 43], Tryd.prog.wantsStandIn t = false := by
    intro t ht
    simp only [List.mem_cons, List.not_mem_nil, or_false] at ht
    rcases ht with rfl | rfl <;> kernel_rfl
  exact hall t (by simpa using Array.mem_of_getElem? ht)
theorem over_speechTells (walk : ∀ (W : World) (v0 : Value) (v1 : Value), laidMetH Tryd.prog Rows.speechTellsRow.laid W → Is_int W v0 → Is_answer W v1 → Calls Tryd.prog 5 #[v0, v1] W fun e w' => e = .returned (.bool true) ∧ Below W.heap.size W w') : Rows.SpeechTellsCardSaid :=
  Claim7.holds_tied_plain_at .later [] _ _ _ _ (said_speechTells walk) (fun _ h => by cases h) (by kernel_rfl) (fun _ h => by cases h) speechTells_row_tie rfl ⟨rfl, rfl⟩ (by kernel_rfl) rfl plain_speechTells (by kernel_rfl)
end
theorem speechTells_proved : Rows.SpeechTellsCardSaid := over_speechTells fun W _ _ hl ⟨verb, e1, _⟩ ⟨q, cv, zs, e2, hq, ⟨a, cap, e3, hs⟩, hz⟩ => by
  subst e1; subst e2; subst e3
  obtain ⟨code, n, x0, y0, x1, y1, rb, rl, key⟩ := q
  exact law_tells verb code n x0 y0 x1 y1 rb rl key zs a cap W hs hz hq (tab_of hl)
end Go.Proofs.YtdmamecfmfhlmaaDoor
