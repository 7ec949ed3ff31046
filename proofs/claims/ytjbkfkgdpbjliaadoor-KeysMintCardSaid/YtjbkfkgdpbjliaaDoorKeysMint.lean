/-
  For all tables, names, rights and draws, keys.Mint answers what the document's Mint answers, wherever the library's tables read as they are listed; no condition.
-/
import Derived.Test.YtjbkfkgdpbjliaaDoorRefMint
import Derived.Test.YtjbkfkgdpbjliaaDoorCard
import Derived.Stop.LaidErr
namespace Go.Proofs.YtjbkfkgdpbjliaaDoor
set_option maxRecDepth 100000
open Go.RowKit

theorem tab_of {W : World} {x y : String × DataW Unit} {r : List (String × DataW Unit)} (h : laidMet Tryd.prog (x :: y :: ("internal/strconv.uint64pow10", Lib.tabData .u64 Lib.pow10Tab) :: r) W) : Tab W.heap.size W :=
  Lib.tabBelow_of_tabIs (Lib.tabIs_of_head (g := 0) (t := 74) (by kernel_rfl) (by kernel_rfl) Tryd.underlying74 Tryd.underlying33 (by kernel_rfl) (by kernel_rfl) (laidMet.tail (laidMet.tail h)))
def deBL : List Int := [0,1,56,2,57,49,28,3,61,58,42,50,38,29,17,4,62,47,59,36,45,43,51,22,53,39,33,30,24,18,12,5,63,55,48,27,60,41,37,16,46,35,44,21,52,32,23,11,54,26,40,15,34,20,31,10,25,14,19,9,13,8,7,6]
theorem deB_of {W : World} {x : String × DataW Unit} {r : List (String × DataW Unit)} (h : laidMet Tryd.prog (x :: ("math/bits.deBruijn64tab", Lib.tabData .u8 deBL) :: r) W) : DeB W.heap.size W := fun W' hb => by
  have h1 := Lib.tabBelow_of_tabIs (Lib.tabIs_of_head (g := 2) (t := 84) (by kernel_rfl) (by kernel_rfl) Tryd.underlying84 Tryd.underlying5 (by kernel_rfl) (by kernel_rfl) (laidMet.tail h)) W' hb
  exact h1.cell (g := 2) (by kernel_rfl) 15 (by decide)
theorem sl_own_grow {w w' : World} {base : Nat} {e : TypeId} {k bytes n : Nat} {a : Option Addr} {cap : Nat} {fl : List Value} (h : w.ownsRow base e k (.slice a n cap) n fl) (hk : 0 < k) (hb : n * bytes ≤ 140737488351232) (hg : Below w.heap.size w w') : Sl w' k bytes a n cap fl := by
  obtain ⟨a', c', e1, hs⟩ := sl_of_own h hb
  simp only [Value.slice.injEq, true_and] at e1
  obtain ⟨rfl, rfl⟩ := e1
  exact hs.below hk hg
/-- What a Mint comes to: a table, a text, an error. -/
def MintG (w : World) (S er : Int) (T : ByteArray) (ks : List KeyD) (e : Ending) (w' : World) : Prop := ∃ a c, e = .returned (.tuple #[.agg #[.int .i64 S, .slice a ks.length c], .string T, .int .i64 er]) ∧ Below w.heap.size w w' ∧ Sl w' 3 40 a ks.length c (ks.flatMap encKey)
theorem mintG_bad {w w' : World} {er : Int} {e : Ending} (h : MintBad er w e w') : MintG w 0 er ⟨#[]⟩ [] e w' := ⟨none, 0, h.1, h.2, ⟨rfl, Nat.le_refl _, by unfold maxLen; omega, fun _ => rfl, by simp, fun h => absurd h (by simp)⟩⟩
theorem mintG_ok {w w' : World} {s : Nat} {ks : List KeyD} {name : ByteArray} {r d : Int} {e : Ending} (h : MintOk s ks name r d w e w') : MintG w ((s : Int) + 1) 0 (txt (keyF s d)) (ks ++ [KeyD.mk (txt (keyF s d)) name r]) e w' := by
  obtain ⟨v, h1, h2, a, c, rfl, h4⟩ := h
  have e1 : (ks ++ [KeyD.mk (txt (keyF s d)) name r]).length = ks.length + 1 := by simp
  exact ⟨a, c, by rw [h1, e1], h2, by rw [e1]; exact h4⟩
/-- Both Mints alike, wherever they are called. -/
theorem mint_both (B : Nat) (s : Int) (ks : List KeyD) (name : ByteArray) (r d : Int) (w : World) (hd : -9223372036854775808 ≤ d ∧ d ≤ 9223372036854775807) (hB : B ≤ w.heap.size) (ht : Tab B w) (hdb : DeB B w) :
    ∃ S er T ks', (∀ W a cap, Below w.heap.size w W → Sl W 3 40 a ks.length cap (ks.flatMap encKey) → Calls Tryd.prog 4 #[.agg #[.int .i64 s, .slice a ks.length cap], .string name, .int .i64 r, .int .i64 d] W (MintG W S er T ks')) ∧
      (∀ W a cap, Below w.heap.size w W → Sl W 3 40 a ks.length cap (ks.flatMap encKey) → Calls Tryd.prog 6 #[.agg #[.int .i64 s, .slice a ks.length cap], .string name, .int .i64 r, .int .i64 d] W (MintG W S er T ks')) := by
  by_cases hbad : r < 1 ∨ 3 < r ∨ s < 0 ∨ 2147483648 ≤ s
  · exact ⟨0, 3, ⟨#[]⟩, [], fun W a cap _ _ => (mint_bad s ks name r d a cap W hbad).mono fun e w' h => mintG_bad h, fun W a cap _ _ => (refMint_bad s ks name r d a cap W hbad).mono fun e w' h => mintG_bad h⟩
  · obtain ⟨n, rfl⟩ : ∃ n : Nat, s = n := ⟨s.toNat, by omega⟩
    by_cases hf : 32 ≤ ks.length
    · exact ⟨0, 5, ⟨#[]⟩, [], fun W a cap _ _ => (mint_full n ks name r d a cap W (by omega) (by omega) (by omega) hf).mono fun e w' h => mintG_bad h, fun W a cap _ _ => (refMint_full n ks name r d a cap W (by omega) (by omega) (by omega) hf).mono fun e w' h => mintG_bad h⟩
    · exact ⟨_, _, _, _, fun W a cap hW hs => (mint_ok B n ks name r d a cap W (by omega) (by omega) (by omega) (by omega) hd hs (by have := hW.size; omega) (ht.on (hW.mono hB)) (hdb.on (hW.mono hB))).mono fun e w' h => mintG_ok h, fun W a cap _ hs => (refMint_ok n ks name r d a cap W (by omega) (by omega) (by omega) (by omega) hd hs).mono fun e w' h => mintG_ok h⟩
set_option maxHeartbeats 4000000 in
theorem law_keysMint (s : Int) (ks : List KeyD) (name : ByteArray) (r d : Int) (a : Option Addr) (cap : Nat) (w : World) (hs : Sl w 3 40 a ks.length cap (ks.flatMap encKey)) (hd : -9223372036854775808 ≤ d ∧ d ≤ 9223372036854775807) (ht : Tab w.heap.size w) (hdb : DeB w.heap.size w) :
    Calls Tryd.prog 3 #[.agg #[.int .i64 s, .slice a ks.length cap], .string name, .int .i64 r, .int .i64 d] w fun e w' => e = .returned (.bool true) ∧ Below w.heap.size w w' := by
  have hwide := hs.wide
  obtain ⟨S, er, T, ks', hM, hR⟩ := mint_both w.heap.size s ks name r d w hd (Nat.le_refl _) ht hdb
  have hO : ∀ W, Below w.heap.size w W → Calls Tryd.prog 4 #[.agg #[.int .i64 0, .slice none 0 0], .string ⟨#[97]⟩, .int .i64 1, .int .i64 5] W (MintG W 1 0 (txt (keyF 0 5)) [KeyD.mk (txt (keyF 0 5)) ⟨#[97]⟩ 1]) := fun W hW => (mint_ok w.heap.size 0 [] ⟨#[97]⟩ 1 5 none 0 W (by omega) (by omega) (by omega) (by simp) (by omega) ⟨rfl, Nat.le_refl _, by unfold maxLen; omega, fun _ => rfl, by simp, fun h => absurd h (by simp)⟩ (Below.size hW) (ht.on hW) (hdb.on hW)).mono fun e w' h => mintG_ok h
  have hT := fun W (hW : Below w.heap.size w W) => table_any s ks a cap W (hs.below (by omega) hW)
  have HS := Lib.hid hs
  obtain ⟨n, hn⟩ : ∃ n, n = ks.length := ⟨_, rfl⟩
  have HN := Lib.hid hn
  rw [← hn] at hM hR hT HS ⊢
  rw [← hn] at hwide
  have HM := Lib.hid hM
  have HR := Lib.hid hR
  have HO := Lib.hid hO
  have HT := Lib.hid hT
  clear hs ht hdb hM hR hO hT hn hd
  go_enter Tryd.func3, Tryd.ntmps3
  go_wp2_with fail
  have hBX : Below w.heap.size w (w.alloc (.cells #[.int .i64 s, .slice a n cap] 24)) := (Below.refl _ _).alloc (Nat.le_refl _) _
  refine (HT.out _ hBX).mono ?_
  rintro e w1 ⟨v1, rfl, hb1, ho1⟩
  obtain ⟨a1, c1, rfl⟩ := own_form ho1
  have hB1 := hBX.trans (hb1.mono (by simp))
  have t0 : w1.cell? ⟨w.heap.size, 0, none⟩ = some (.int .i64 s) := by rw [hb1.cell (by simp)]; simp
  have t1 : w1.cell? ⟨w.heap.size, 1, none⟩ = some (.slice a n cap) := by rw [hb1.cell (by simp)]; simp
  have hz1 := hb1.size
  simp only [World.size_alloc] at hz1
  have hs1 := sl_own_grow ho1 (by omega) (by rw [← HN.out]; exact hwide) (Below.refl _ _)
  have HM1 := Lib.hid (HM.out w1 a1 c1 hB1 (by rw [HN.out]; exact hs1))
  rw [HN.out] at HM1
  clear ho1 hs1 hb1
  go_wp2_with fail
  refine HM1.out.mono ?_
  rintro e w2 ⟨a2, c2, rfl, hb2, hs2⟩
  have t0 : w2.cell? ⟨w.heap.size, 0, none⟩ = some (.int .i64 s) := by rw [hb2.cell (by simp; omega)]; exact t0
  have t1 : w2.cell? ⟨w.heap.size, 1, none⟩ = some (.slice a n cap) := by rw [hb2.cell (by simp; omega)]; exact t1
  have hz2 := hb2.size
  have hB2 := hB1.trans (hb2.mono hB1.size)
  have hlt2 : w.heap.size < w2.heap.size := by omega
  have HS2 := Lib.hid hs2
  clear hs2 hb2
  go_wp2_with fail
  have hBX2 : Below w2.heap.size w2 (w2.alloc (.cells #[.int .i64 S, .slice a2 ks'.length c2] 24)) := (Below.refl _ _).alloc (Nat.le_refl _) _
  have hB2' := hB2.trans (hBX2.mono (by omega))
  refine (HR.out _ a cap hB2' (HS.out.below (by omega) hB2')).mono ?_
  rintro e w3 ⟨a3, c3, rfl, hb3, hs3⟩
  have hz3 := hb3.size
  simp only [World.size_alloc] at hz3
  have hb23 : Below w2.heap.size w2 w3 := hBX2.trans (hb3.mono (by simp))
  have hB3 := hB2.trans (hb23.mono (by omega))
  have x2 : w3.heap[w2.heap.size]? = some (.cells #[.int .i64 S, .slice a2 ks'.length c2] 24 (0, 0)) := (hb3.block _ (by simp)).trans (blk_last w2 _ rfl)
  have HS3 := Lib.hid hs3
  have HS2' := Lib.hid (HS2.out.below (by omega) hb23)
  clear hs3 hBX2 hB2' hb23 hb3
  go_wp2_with fail
  have hBX3 : Below w3.heap.size w3 (w3.alloc (.cells #[.int .i64 S, .slice a3 ks'.length c3] 24)) := (Below.refl _ _).alloc (Nat.le_refl _) _
  refine (HO.out _ (hB3.trans (hBX3.mono (by omega)))).mono ?_
  rintro e w4 ⟨a4, c4, rfl, hb4, -⟩
  have hz4 := hb4.size
  simp only [World.size_alloc] at hz4
  have hb34 : Below w3.heap.size w3 w4 := hBX3.trans (hb4.mono (by simp))
  have hB4 := hB3.trans (hb34.mono (by omega))
  have y2 := (hb34.block _ (lt_of_block x2)).trans x2
  have y3 : w4.heap[w3.heap.size]? = some (.cells #[.int .i64 S, .slice a3 ks'.length c3] 24 (0, 0)) := (hb4.block _ (by simp)).trans (blk_last w3 _ rfl)
  have e0 : w4.cell? ⟨w2.heap.size, 0, none⟩ = some (.int .i64 S) := Joins.cell_of_block y2 0
  have e1 : w4.cell? ⟨w2.heap.size, 1, none⟩ = some (.slice a2 ks'.length c2) := Joins.cell_of_block y2 1
  have f0 : w4.cell? ⟨w3.heap.size, 0, none⟩ = some (.int .i64 S) := Joins.cell_of_block y3 0
  have f1 : w4.cell? ⟨w3.heap.size, 1, none⟩ = some (.slice a3 ks'.length c3) := Joins.cell_of_block y3 1
  have hl2 : w2.heap.size < w4.heap.size := by omega
  have hl3 : w3.heap.size < w4.heap.size := by omega
  have hSa := HS2'.out.below (by omega) hb34
  have hSb := HS3.out.below (by omega) hb34
  have HSa := Lib.hid hSa
  have HSb := Lib.hid hSb
  have HB4 := Lib.hid hB4
  clear x2 y2 y3 hBX3 hb34 hb4 hSa hSb hB4 hB3 t0 t1 HM1
  go_wp2_with fail
  have bW := fun o => (Below.refl w4.heap.size w4).alloc (Nat.le_refl _) o
  refine (sameTable_any S ks' _ _ _ _ _ (HSa.out.below (by omega) (bW _)) (HSb.out.below (by omega) (bW _))).mono ?_
  rintro e w5 ⟨rfl, hb5⟩
  have hz5 := hb5.size
  simp only [World.size_alloc] at hz5
  have g0 : w5.cell? ⟨w4.heap.size, 0, none⟩ = some (.int .i64 1) := by
    rw [hb5.cell (by simp)]
    exact Joins.cell_of_block (blk_last w4 _ rfl) 0
  have HB5 := Lib.hid (HB4.out.trans ((bW _).trans (hb5.mono (by simp)) |>.mono (by omega)))
  clear hb5 bW
  go_wp2_with fail
  go_ret
  exact ⟨rfl, HB5.out⟩
section
open Go.ChangeShapes Go.WideShapes Go.ChangeAt
noncomputable def laidWorld_keysMint (os : Os) : World := { World.holding Tryd.prog os ⟨#[], #[], []⟩ with heap := ((((World.holding Tryd.prog os ⟨#[], #[], []⟩).heap).modify 1 (laidIn (tabV Rows.laid_math_bits_deBruijn32tab))).modify 2 (laidIn (tabV Rows.laid_math_bits_deBruijn64tab))).modify 0 (laidIn (tabV Rows.laid_internal_strconv_uint64pow10)) }
set_option maxRecDepth 100000 in
theorem laidMet_keysMint (os : Os) : laidMet Tryd.prog Rows.keysMintRow.laid ((laidWorld_keysMint os).forCall (fun _ _ => 0) ⟨#[], #[.agg #[.int .i64 0, .slice none 0 0], .string ⟨#[]⟩, .int .i64 0, .int .i64 0], []⟩).memory := laidMet_of_run' 8 (by kernel_rfl) (by kernel_rfl)
set_option maxRecDepth 100000 in
theorem reads_keysMint (os : Os) {H : Type} (enc : TypeId × Value → H) : ∃ places, DataW.whole enc Tryd.prog ((laidWorld_keysMint os).forCall (fun _ _ => 0) ⟨#[], #[.agg #[.int .i64 0, .slice none 0 0], .string ⟨#[]⟩, .int .i64 0, .int .i64 0], []⟩).memory Tryd.f3.params.toList Rows.keysMintSpec.vars false #[.agg #[.int .i64 0, .slice none 0 0], .string ⟨#[]⟩, .int .i64 0, .int .i64 0].toList 8 = some ([.agg [.lit (.int .i64 0), .nil], .lit (.string []), .lit (.int .i64 0), .lit (.int .i64 0)], [], places) := ⟨[], by kernel_rfl⟩
set_option maxRecDepth 100000 in
theorem lifted_keysMint (os : Os) (started : os.Started) (H : Type) (enc : TypeId × Value → H) (F : Stop.Interp) (walk : ∀ (W : World) (v0 : Value) (v1 : Value) (v2 : Value) (v3 : Value), laidMetH Tryd.prog Rows.keysMintRow.laid W → Is_table W v0 → Is_string W v1 → Is_int W v2 → Is_int W v3 → Calls Tryd.prog 3 #[v0, v1, v2, v3] W fun e w' => e = .returned (.bool true) ∧ Below W.heap.size W w') :
    ReturnsInHanded {} Tryd.checked os 3 .any ((OpenSpec.ofChange Rows.keysMintSpec).preRow enc Tryd.prog Tryd.f3 Rows.keysMintRow.domain false Rows.keysMintRow.laid) (((OpenSpec.ofChange Rows.keysMintSpec).at F).post enc Tryd.prog Tryd.f3 false true false false) := by
  obtain ⟨places, hx⟩ := reads_keysMint os enc
  refine returnsInHanded_of_row (C := Tryd.checked) (s := (OpenSpec.ofChange Rows.keysMintSpec)) own started (by kernel_rfl) Tryd.func3
    (witness_row_at (enc := enc) (C := Tryd.checked) false (laidWorld_keysMint os) #[.agg #[.int .i64 0, .slice none 0 0], .string ⟨#[]⟩, .int .i64 0, .int .i64 0] rfl (by kernel_rfl) (by kernel_rfl) (by kernel_rfl)
      (OpenSpec.preRow_of_cond 8 hx (by kernel_rfl) (fun k hk => by cases hk) (by kernel_rfl) (laidMet_keysMint os))) ?_
  intro W base args ds gs before hval0 hW hcnd hk hsz0 hL _ _
  have hval : ∀ (j : Nat) t v, Tryd.f3.params[j]? = some t → args[j]? = some v → Value.okWide Tryd.prog W .any base t v := hval0
  have hW' := hW
  obtain ⟨p, q, hA0, hV, rfl, hfz, hnd⟩ := hW
  have hA : DataW.TrodAll enc Tryd.prog W 0 (fun _ => true) true Tryd.f3.params.toList args.toList ds p := hA0
  rw [Tryd.params3] at hA hval
  obtain ⟨rfl, rfl⟩ := trodVars_none hV
  have hB := hA
  obtain ⟨v0, vs0, d0, ds0, p0, q0, hargs, rfl, rfl, h0, r0⟩ := trodAll_cons hA
  obtain ⟨v1, vs1, d1, ds1, p1, q1, rfl, rfl, rfl, h1, r1⟩ := trodAll_cons r0
  obtain ⟨v2, vs2, d2, ds2, p2, q2, rfl, rfl, rfl, h2, r2⟩ := trodAll_cons r1
  obtain ⟨v3, vs3, d3, ds3, p3, q3, rfl, rfl, rfl, h3, r3⟩ := trodAll_cons r2
  obtain ⟨rfl, rfl, rfl⟩ := trodAll_nil r3
  obtain rfl : args = #[v0, v1, v2, v3] := by cases args; simp_all
  have hsz : (DataW.weightsEach Tryd.prog [24, 9, 3, 3] [d0, d1, d2, d3]).all (· ≤ reachBytes) = true := hsz0
  have i0 := open_table (hval 0 24 v0 rfl rfl) h0 (weights_le hsz 0 rfl rfl)
  have i1 := open_string (hval 1 9 v1 rfl rfl) h1 (weights_le hsz 1 rfl rfl)
  have i2 := open_int (hval 2 3 v2 rfl rfl) h2 (weights_le hsz 2 rfl rfl)
  have i3 := open_int (hval 3 3 v3 rfl rfl) h3 (weights_le hsz 3 rfl rfl)
  refine (walk W v0 v1 v2 v3 hL i0 i1 i2 i3).mono fun e W' ⟨he, bel⟩ => ?_
  subst he
  exact ⟨_, rfl, _, _, _, [], _, [], hW', trodAll_mk1 (shut_bool Tryd.underlying4 _), trodAll_below laidOut (by kernel_rfl) hB bel, rfl, bel.frame _, fun h => by cases h⟩
theorem said_keysMint (walk : ∀ (W : World) (v0 : Value) (v1 : Value) (v2 : Value) (v3 : Value), laidMetH Tryd.prog Rows.keysMintRow.laid W → Is_table W v0 → Is_string W v1 → Is_int W v2 → Is_int W v3 → Calls Tryd.prog 3 #[v0, v1, v2, v3] W fun e w' => e = .returned (.bool true) ∧ Below W.heap.size W w') : Rows.keysMintRow.holds Tryd.pinned (OpenSpec.ofChange Rows.keysMintSpec) :=
  OpenClaim.holds_of_cond 3 Tryd.f3 rfl rfl rfl rfl rfl rfl rfl ⟨rfl, rfl, rfl, rfl, rfl⟩ rfl rfl rfl rfl rfl (by kernel_rfl) Tryd.func3 (by kernel_rfl)
    (of_decide_eq_true (by kernel_rfl)) (by unfold Func.isWrapper; first | (rw [if_pos (by decide +kernel)]; kernel_rfl) | (rw [if_neg (by decide +kernel)]; exact ⟨rfl, rfl⟩))
    (fun os started H enc _ F => by rw [OpenClaim.pre_eq_preRow]; exact lifted_keysMint os started H enc F walk)
theorem plain_keysMint (f : FuncId) (fn : Func) (hf : Tryd.pinned.checked.prog.funcNamed "lifelodge/lifelodgelaw.KeysMint" = some f) (hfn : Tryd.pinned.checked.prog.funcs[f]? = some fn) :
    false = Tryd.pinned.checked.prog.looks [] ∧ ∀ (j : Nat) t, fn.params[j]? = some t → Tryd.pinned.checked.prog.wantsStandIn t = false := by
  obtain rfl : f = 3 := Option.some.inj ((show Tryd.prog.funcNamed "lifelodge/lifelodgelaw.KeysMint" = some 3 by kernel_rfl).symm.trans hf) |>.symm
  obtain rfl : fn = Tryd.f3 := (Option.some.inj (Tryd.func3.symm.trans hfn)).symm
  refine ⟨by kernel_rfl, fun j t ht => ?_⟩
  rw [Tryd.params3] at ht
  have hall : ∀ t ∈ [24, 9, 3, 3], Tryd.prog.wantsStandIn t = false := by
    intro t ht
    simp only [List.mem_cons, List.not_mem_nil, or_false] at ht
    rcases ht with rfl | rfl | rfl | rfl <;> kernel_rfl
  exact hall t (by simpa using Array.mem_of_getElem? ht)
theorem over_keysMint (walk : ∀ (W : World) (v0 : Value) (v1 : Value) (v2 : Value) (v3 : Value), laidMetH Tryd.prog Rows.keysMintRow.laid W → Is_table W v0 → Is_string W v1 → Is_int W v2 → Is_int W v3 → Calls Tryd.prog 3 #[v0, v1, v2, v3] W fun e w' => e = .returned (.bool true) ∧ Below W.heap.size W w') : Rows.KeysMintCardSaid :=
  Claim7.holds_tied_plain_at .later [] _ _ _ _ (said_keysMint walk) (fun _ h => by cases h) (by kernel_rfl) (fun _ h => by cases h) keysMint_row_tie rfl ⟨rfl, rfl⟩ (by kernel_rfl) rfl plain_keysMint (by kernel_rfl)
end
theorem keysMint_proved : Rows.KeysMintCardSaid := over_keysMint fun W _ _ _ _ hl ⟨s, kv, ks, e0, _, ⟨a, cap, e1, hs⟩, _⟩ ⟨name, e2, _⟩ ⟨r, e3, _⟩ ⟨d, e4, hd⟩ => by
  subst e0; subst e1; subst e2; subst e3; subst e4
  exact law_keysMint s ks name r d a cap W hs hd (tab_of hl) (deB_of hl)
end Go.Proofs.YtjbkfkgdpbjliaaDoor
