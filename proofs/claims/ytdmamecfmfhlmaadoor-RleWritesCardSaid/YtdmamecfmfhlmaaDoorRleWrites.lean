/-
  For all lists and rules, rle.Encode answers what the document's EncodeCells answers, wherever the library's table of powers of ten reads as it is listed.
-/
import Derived.Test.YtdmamecfmfhlmaaDoorRefEncode
import Derived.Test.YtdmamecfmfhlmaaDoorLifeRods
import Derived.Test.YtdmamecfmfhlmaaDoorCard
import Derived.Stop.LaidErr
namespace Go.Proofs.YtdmamecfmfhlmaaDoor
set_option maxRecDepth 100000
open Go.RowKit

theorem tab_of {W : World} {x y : String × DataW Unit} {r : List (String × DataW Unit)} (h : laidMet Tryd.prog (x :: y :: ("internal/strconv.uint64pow10", Lib.tabData .u64 Lib.pow10Tab) :: r) W) : Tab W.heap.size W :=
  Lib.tabBelow_of_tabIs (Lib.tabIs_of_head (g := 2) (t := 155) (by kernel_rfl) (by kernel_rfl) Tryd.underlying155 Tryd.underlying54 (by kernel_rfl) (by kernel_rfl) (laidMet.tail (laidMet.tail h)))
def encRod : List UInt8 := [120, 32, 61, 32, 51, 44, 32, 121, 32, 61, 32, 49, 44, 32, 114, 117, 108, 101, 32, 61, 32, 66, 51, 47, 83, 50, 51, 10, 51, 111, 33, 10]
theorem encF_rod : encF rodL 8 12 = (encRod, 0) := by kernel_rfl
set_option maxHeartbeats 4000000 in
theorem law_rleWrites (zs : List (Int × Int)) (rb rl : Int) (a : Option Addr) (cap : Nat) (w : World) (hs : Sl w 2 16 a zs.length cap (zs.flatMap encCell)) (ht : Tab w.heap.size w) :
    Calls Tryd.prog 4 #[.slice a zs.length cap, .agg #[.int .i64 rb, .int .i64 rl]] w fun e w' => e = .returned (.bool true) ∧ Below w.heap.size w w' := by
  have hwide := hs.wide
  obtain ⟨⟨T, er⟩, hT⟩ : ∃ R, R = encF zs rb rl := ⟨_, rfl⟩
  have hcc : ∀ W, Below w.heap.size w W → Calls Tryd.prog 12 #[.slice a zs.length cap] W fun e w' => ∃ a1 c1, e = .returned (.slice a1 zs.length c1) ∧ Below W.heap.size W w' ∧ Sl w' 2 16 a1 zs.length c1 (zs.flatMap encCell) := fun W hb => by
    refine (cells_any zs a cap W (hs.below (by omega) hb)).mono ?_
    rintro e w1 ⟨v1, rfl, hb1, ho1⟩
    obtain ⟨a1, c1, rfl⟩ := own_form ho1
    exact ⟨a1, c1, rfl, hb1, sl_own_up (bytes := 16) ho1 (by omega) hwide (Below.refl _ _)⟩
  obtain ⟨TX, hTX⟩ : ∃ TX, TX = txt T := ⟨_, rfl⟩
  have he : ∀ W a c, Below w.heap.size w W → Sl W 2 16 a zs.length c (zs.flatMap encCell) → Calls Tryd.prog 11 #[.slice a zs.length c, .agg #[.int .i64 rb, .int .i64 rl]] W fun e w' => e = .returned (.tuple #[.string TX, .int .i64 er]) ∧ Below W.heap.size W w' := fun W a c h h' =>
    (encode_any w.heap.size zs rb rl a c W h' (ht.on h) h.size).mono fun e w' ⟨h1, h2⟩ => ⟨by rw [h1, ← hT, hTX], h2⟩
  have hr : ∀ W, Below w.heap.size w W → Calls Tryd.prog 13 #[.slice a zs.length cap, .agg #[.int .i64 rb, .int .i64 rl]] W fun e w' => e = .returned (.tuple #[.string TX, .int .i64 er]) ∧ Below W.heap.size W w' := fun W h =>
    (refEncode_any zs rb rl a cap W (hs.below (by omega) h)).mono fun e w' ⟨h1, h2⟩ => ⟨by rw [h1, ← hT, hTX], h2⟩
  have h3 : ∀ W a c, Below w.heap.size w W → Sl W 2 16 a 3 c (rodL.flatMap encCell) → Calls Tryd.prog 11 #[.slice a 3 c, .agg #[.int .i64 8, .int .i64 12]] W fun e w' => e = .returned (.tuple #[.string (txt encRod), .int .i64 0]) ∧ Below W.heap.size W w' := fun W a c h h' =>
    (encode_any w.heap.size rodL 8 12 a c W h' (ht.on h) h.size).mono fun e w' ⟨h1, h2⟩ => ⟨by rw [h1, encF_rod], h2⟩
  obtain ⟨n, hn⟩ : ∃ n, n = zs.length := ⟨_, rfl⟩
  rw [← hn] at hcc he hr ⊢
  have HCC := Lib.hid hcc
  have HE := Lib.hid he
  have HR := Lib.hid hr
  have H3 := Lib.hid h3
  clear hs ht hT hTX hcc he hr h3 hn
  go_enter Tryd.func4, Tryd.ntmps4
  go_wp2_with fail
  obtain ⟨X, hX⟩ : ∃ X, X = w.alloc (.cells #[.int .i64 rb, .int .i64 rl] 33) := ⟨_, rfl⟩
  have hBX : Below w.heap.size w X := by rw [hX]; exact (Below.refl _ _).alloc (Nat.le_refl _) _
  have hXr : X.heap[w.heap.size]? = some (.cells #[.int .i64 rb, .int .i64 rl] 33 (0, 0)) := by rw [hX]; exact blk_last _ _ rfl
  have hlt := lt_of_block hXr
  rw [← hX]
  have hk0 : ∀ W, Below X.heap.size X W → W.cell? ⟨w.heap.size, 0, none⟩ = some (.int .i64 rb) ∧ W.cell? ⟨w.heap.size, 1, none⟩ = some (.int .i64 rl) := fun W hb => ⟨Joins.cell_of_block ((hb.block _ hlt).trans hXr) 0, Joins.cell_of_block ((hb.block _ hlt).trans hXr) 1⟩
  have HK := Lib.hid hk0
  have hXd := (Below.refl X.heap.size X).drew
  have hzX := hBX.size
  have hcx : Calls Tryd.prog 12 #[.slice a n cap] X.drew fun e w' => ∃ a1 c1, e = .returned (.slice a1 n c1) ∧ Below X.heap.size X w' ∧ Sl w' 2 16 a1 n c1 (zs.flatMap encCell) := (HCC.out X.drew hBX.drew).mono fun e w' ⟨a1, c1, h1, h2, h3⟩ => ⟨a1, c1, h1, hXd.trans h2, h3⟩
  have HCX := Lib.hid hcx
  have hex : ∀ W a c, Below X.heap.size X W ∧ Sl W 2 16 a n c (zs.flatMap encCell) → Calls Tryd.prog 11 #[.slice a n c, .agg #[.int .i64 rb, .int .i64 rl]] W fun e w' => e = .returned (.tuple #[.string TX, .int .i64 er]) ∧ Below X.heap.size X w' := fun W a c ⟨h1, h2⟩ => (HE.out W a c (hBX.trans (h1.mono hzX)) h2).mono fun e w' ⟨g1, g2⟩ => ⟨g1, h1.trans (g2.mono h1.size)⟩
  have HEX := Lib.hid hex
  clear hX hXr hlt hk0 hcx hex
  go_region_held3 (fun w' => w'.cell? ⟨w.heap.size, 0, none⟩ = some (.int .i64 rb) ∧ w'.cell? ⟨w.heap.size, 1, none⟩ = some (.int .i64 rl)) (first | exact HK.out _ hXd | exact HK.out _ h1.1 | exact HK.out _ hb2) ((first | (go_at_call 12; refine (HCX.out).mono ?_; rintro e w1 ⟨a1, c1, rfl, h1⟩) | (go_at_call 11; with_reducible refine (HEX.out _ _ _ (by assumption)).mono ?_; rintro e w2 ⟨rfl, hb2⟩)))
  all_goals
    obtain ⟨r0, r1⟩ := HK.out _ hb2
    have hz2 := hb2.size
    go_wp2_with fail
    refine (HR.out _ (hBX.trans (hb2.mono hzX))).mono ?_
    rintro e w3 ⟨rfl, hb3⟩
    have hB3 := hBX.trans ((hb2.trans (hb3.mono hz2)).mono hzX)
    go_wp2_with fail
    refine (rod_any _).mono ?_
    rintro e w4 ⟨a4, c4, rfl, hb4, S4⟩
    have HS4 := Lib.hid S4
    have hB4 := hB3.trans (hb4.mono hB3.size)
    clear S4
    go_wp2_with fail
    refine (life_any _).mono ?_
    rintro e w5 ⟨rfl, hb5⟩
    have hB5 := hB4.trans (hb5.mono hB4.size)
    have HS5 := Lib.hid (HS4.out.below (by decide) hb5)
    go_wp2_with fail
    refine (H3.out _ _ _ hB5 HS5.out).mono ?_
    rintro e w6 ⟨rfl, hb6⟩
    have hB6 := hB5.trans (hb6.mono hB5.size)
    have htx : (txt encRod == (⟨#[120, 32, 61, 32, 51, 44, 32, 121, 32, 61, 32, 49, 44, 32, 114, 117, 108, 101, 32, 61, 32, 66, 51, 47, 83, 50, 51, 10, 51, 111, 33, 10]⟩ : ByteArray)) = true := by kernel_rfl
    go_wp2_with fail
    go_ret
    exact ⟨by simp; kernel_rfl, hB6⟩
section
open Go.ChangeShapes Go.WideShapes Go.ChangeAt
noncomputable def laidWorld_rleWrites (os : Os) : World := { World.holding Tryd.prog os ⟨#[], #[], []⟩ with heap := ((((World.holding Tryd.prog os ⟨#[], #[], []⟩).heap).modify 4 (laidIn (tabV Rows.laid_math_bits_deBruijn32tab))).modify 5 (laidIn (tabV Rows.laid_math_bits_deBruijn64tab))).modify 2 (laidIn (tabV Rows.laid_internal_strconv_uint64pow10)) }
set_option maxRecDepth 100000 in
theorem laidMet_rleWrites (os : Os) : laidMet Tryd.prog Rows.rleWritesRow.laid ((laidWorld_rleWrites os).forCall (fun _ _ => 0) ⟨#[], #[.slice none 0 0, .agg #[.int .i64 0, .int .i64 0]], []⟩).memory := laidMet_of_run' 8 (by kernel_rfl) (by kernel_rfl)
set_option maxRecDepth 100000 in
theorem reads_rleWrites (os : Os) {H : Type} (enc : TypeId × Value → H) : ∃ places, DataW.whole enc Tryd.prog ((laidWorld_rleWrites os).forCall (fun _ _ => 0) ⟨#[], #[.slice none 0 0, .agg #[.int .i64 0, .int .i64 0]], []⟩).memory Tryd.f4.params.toList Rows.rleWritesSpec.vars false #[.slice none 0 0, .agg #[.int .i64 0, .int .i64 0]].toList 8 = some ([.nil, .agg [.lit (.int .i64 0), .lit (.int .i64 0)]], [], places) := ⟨[], by kernel_rfl⟩
set_option maxRecDepth 100000 in
theorem lifted_rleWrites (os : Os) (started : os.Started) (H : Type) (enc : TypeId × Value → H) (F : Stop.Interp) (walk : ∀ (W : World) (v0 : Value) (v1 : Value), laidMetH Tryd.prog Rows.rleWritesRow.laid W → Is_cells W v0 → Is_rule W v1 → Calls Tryd.prog 4 #[v0, v1] W fun e w' => e = .returned (.bool true) ∧ Below W.heap.size W w') :
    ReturnsInHanded {} Tryd.checked os 4 .any ((OpenSpec.ofChange Rows.rleWritesSpec).preRow enc Tryd.prog Tryd.f4 Rows.rleWritesRow.domain false Rows.rleWritesRow.laid) (((OpenSpec.ofChange Rows.rleWritesSpec).at F).post enc Tryd.prog Tryd.f4 false true false false) := by
  obtain ⟨places, hx⟩ := reads_rleWrites os enc
  refine returnsInHanded_of_row (C := Tryd.checked) (s := (OpenSpec.ofChange Rows.rleWritesSpec)) own started (by kernel_rfl) Tryd.func4
    (witness_row_at (enc := enc) (C := Tryd.checked) false (laidWorld_rleWrites os) #[.slice none 0 0, .agg #[.int .i64 0, .int .i64 0]] rfl (by kernel_rfl) (by kernel_rfl) (by kernel_rfl)
      (OpenSpec.preRow_of_cond 8 hx (by kernel_rfl) (fun k hk => by cases hk) (by kernel_rfl) (laidMet_rleWrites os))) ?_
  intro W base args ds gs before hval0 hW hcnd hk hsz0 hL _ _
  have hval : ∀ (j : Nat) t v, Tryd.f4.params[j]? = some t → args[j]? = some v → Value.okWide Tryd.prog W .any base t v := hval0
  have hW' := hW
  obtain ⟨p, q, hA0, hV, rfl, hfz, hnd⟩ := hW
  have hA : DataW.TrodAll enc Tryd.prog W 0 (fun _ => true) true Tryd.f4.params.toList args.toList ds p := hA0
  rw [Tryd.params4] at hA hval
  obtain ⟨rfl, rfl⟩ := trodVars_none hV
  have hB := hA
  obtain ⟨v0, vs0, d0, ds0, p0, q0, hargs, rfl, rfl, h0, r0⟩ := trodAll_cons hA
  obtain ⟨v1, vs1, d1, ds1, p1, q1, rfl, rfl, rfl, h1, r1⟩ := trodAll_cons r0
  obtain ⟨rfl, rfl, rfl⟩ := trodAll_nil r1
  obtain rfl : args = #[v0, v1] := by cases args; simp_all
  have hsz : (DataW.weightsEach Tryd.prog [31, 33] [d0, d1]).all (· ≤ reachBytes) = true := hsz0
  have i0 := open_cells (hval 0 31 v0 rfl rfl) h0 (weights_le hsz 0 rfl rfl)
  have i1 := open_rule (hval 1 33 v1 rfl rfl) h1 (weights_le hsz 1 rfl rfl)
  refine (walk W v0 v1 hL i0 i1).mono fun e W' ⟨he, bel⟩ => ?_
  subst he
  exact ⟨_, rfl, _, _, _, [], _, [], hW', trodAll_mk1 (shut_bool Tryd.underlying4 _), trodAll_below laidOut (by kernel_rfl) hB bel, rfl, bel.frame _, fun h => by cases h⟩
theorem said_rleWrites (walk : ∀ (W : World) (v0 : Value) (v1 : Value), laidMetH Tryd.prog Rows.rleWritesRow.laid W → Is_cells W v0 → Is_rule W v1 → Calls Tryd.prog 4 #[v0, v1] W fun e w' => e = .returned (.bool true) ∧ Below W.heap.size W w') : Rows.rleWritesRow.holds Tryd.pinned (OpenSpec.ofChange Rows.rleWritesSpec) :=
  OpenClaim.holds_of_cond 4 Tryd.f4 rfl rfl rfl rfl rfl rfl rfl ⟨rfl, rfl, rfl, rfl, rfl⟩ rfl rfl rfl rfl rfl (by kernel_rfl) Tryd.func4 (by kernel_rfl)
    (of_decide_eq_true (by kernel_rfl)) (by unfold Func.isWrapper; first | (rw [if_pos (by decide +kernel)]; kernel_rfl) | (rw [if_neg (by decide +kernel)]; exact ⟨rfl, rfl⟩))
    (fun os started H enc _ F => by rw [OpenClaim.pre_eq_preRow]; exact lifted_rleWrites os started H enc F walk)
theorem plain_rleWrites (f : FuncId) (fn : Func) (hf : Tryd.pinned.checked.prog.funcNamed "lifelodge/lifelodgelaw.RleWrites" = some f) (hfn : Tryd.pinned.checked.prog.funcs[f]? = some fn) :
    true = Tryd.pinned.checked.prog.looks [] ∧ ∀ (j : Nat) t, fn.params[j]? = some t → Tryd.pinned.checked.prog.wantsStandIn t = false := by
  obtain rfl : f = 4 := Option.some.inj ((show Tryd.prog.funcNamed "lifelodge/lifelodgelaw.RleWrites" = some 4 by kernel_rfl).symm.trans hf) |>.symm
  obtain rfl : fn = Tryd.f4 := (Option.some.inj (Tryd.func4.symm.trans hfn)).symm
  refine ⟨by kernel_rfl, fun j t ht => ?_⟩
  rw [Tryd.params4] at ht
  have hall : ∀ t ∈ [31, 33], Tryd.prog.wantsStandIn t = false := by
    intro t ht
    simp only [List.mem_cons, List.not_mem_nil, or_false] at ht
    rcases ht with rfl | rfl <;> kernel_rfl
  exact hall t (by simpa using Array.mem_of_getElem? ht)
theorem over_rleWrites (walk : ∀ (W : World) (v0 : Value) (v1 : Value), laidMetH Tryd.prog Rows.rleWritesRow.laid W → Is_cells W v0 → Is_rule W v1 → Calls Tryd.prog 4 #[v0, v1] W fun e w' => e = .returned (.bool true) ∧ Below W.heap.size W w') : Rows.RleWritesCardSaid :=
  Claim7.holds_tied_plain_at .later [] _ _ _ _ (said_rleWrites walk) (fun _ h => by cases h) (by kernel_rfl) (fun _ h => by cases h) rleWrites_row_tie rfl ⟨rfl, rfl⟩ (by kernel_rfl) rfl plain_rleWrites (by kernel_rfl)
end
theorem rleWrites_proved : Rows.RleWritesCardSaid := over_rleWrites fun W _ _ hl ⟨zs, ⟨a, cap, e1, hs⟩, _⟩ ⟨rb, rl, e2, _, _⟩ => by
  subst e1; subst e2
  exact law_rleWrites zs rb rl a cap W hs (tab_of hl)
end Go.Proofs.YtdmamecfmfhlmaaDoor
