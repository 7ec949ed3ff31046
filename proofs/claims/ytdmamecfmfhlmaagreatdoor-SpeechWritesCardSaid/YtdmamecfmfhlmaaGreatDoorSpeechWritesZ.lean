/-
  For every request, speech.Write answers what the document's WriteRequest answers, wherever the listed tables of verbs, forms and powers of ten read as they are listed.
-/
import Derived.Stop.LaidErr
import Derived.Test.YtdmamecfmfhlmaaGreatDoorZSpeechWritesRefWrite
import Derived.Test.YtdmamecfmfhlmaaGreatDoorZSpeechWrites49
namespace Go.Proofs.YtdmamecfmfhlmaaGreatDoor
set_option maxRecDepth 100000
open Go.RowKit

theorem cells_of_strs {H : Type} {enc : TypeId × Value → H} {P : Program} {w : World} {base : Nat} {sp : Nat → Bool} {held : Bool} {fuel : Nat} {t e : TypeId} {n : Nat} {cs : List Value} {bs : List (List UInt8)} {p : List MemPlace}
    (ht : P.underlying t = some (.array n e)) (he : P.underlying e = some .string) (hce : P.cellsOf e = 1) (hct : P.cellsOf t = n)
    (h : DataW.trod enc P w base sp held fuel t cs = some (.agg (bs.map fun b => .lit (.string b)), p)) : cs = bs.map fun b => Value.string (txt b) := by
  cases fuel with
  | zero => simp [DataW.trod] at h
  | succ fuel =>
    simp only [DataW.trod, ht, hce, hct, Nat.mul_one] at h
    split at h
    · rename_i hl
      obtain ⟨xs, hm, hx⟩ := Option.map_eq_some_iff.1 h
      have hxs : xs.map (·.1) = bs.map fun b => (DataW.lit (.string b) : DataW H) := by
        have := congrArg Prod.fst hx
        simpa using this
      have hxl : xs.length = n := by simpa using Lib.mapM_length hm
      have hzl : bs.length = n := by
        have := congrArg List.length hxs
        simp at this
        omega
      apply List.ext_getElem?
      intro i
      by_cases hi : i < n
      · obtain ⟨b, hb, hf⟩ := Lib.mapM_at hm i i (by simp [hi])
        obtain ⟨s, hc, hd, _⟩ := DataW.trod_string he hf
        have h1 : cs[i]? = some (.string s) := by
          have := congrArg (·[0]?) hc
          simpa [List.getElem?_take, List.getElem?_drop] using this
        have h2 : (xs.map (·.1))[i]? = some (DataW.lit (.string s.data.toList) : DataW H) := by simp [hb, hd]
        rw [hxs] at h2
        simp only [List.getElem?_map, Option.map_eq_some_iff, DataW.lit.injEq, Lit.string.injEq] at h2
        obtain ⟨z', hz', hz2⟩ := h2
        rw [h1, List.getElem?_map, hz', Option.map_some, hz2, txt_eta]
      · rw [List.getElem?_eq_none (by omega), List.getElem?_eq_none (by simp; omega)]
    · cases h
theorem verbs_of_head {P : Program} {W : World} {name : String} {bs : List (List UInt8)} {rest : List (String × DataW Unit)} {g : Nat} {t e : TypeId} {n : Nat}
    (hg : P.globalNamed name = some g) (hty : (P.globals[g]?).map (·.type) = some t) (ht : P.underlying t = some (.array n e)) (he : P.underlying e = some .string) (hce : P.cellsOf e = 1) (hct : P.cellsOf t = n)
    (h : laidMet P ((name, .agg (bs.map fun b => .lit (.string b))) :: rest) W) : ∀ i b, bs[i]? = some b → W.cell? ⟨g, i, none⟩ = some (.string (txt b)) := by
  obtain ⟨ps, ⟨g', t', cs, fuel, p, q, hg', ht', hvar, hd, _, _⟩, _⟩ := h
  obtain rfl := Option.some.inj (hg.symm.trans hg')
  obtain rfl := Option.some.inj (hty.symm.trans ht')
  have hcs := cells_of_strs ht he hce hct hd
  intro i b hb
  have := World.var?_cell hg hvar i
  rw [this, ← Array.getElem?_toList, hcs, List.getElem?_map, hb]; rfl
theorem pow_of {W : World} {x y : String × DataW Unit} {r : List (String × DataW Unit)} (h : laidMet Tryz.prog (x :: y :: ("internal/strconv.uint64pow10", Lib.tabData .u64 Lib.pow10Tab) :: r) W) : Tab W.heap.size W :=
  Lib.tabBelow_of_tabIs (Lib.tabIs_of_head (g := 3) (t := 102) (by kernel_rfl) (by kernel_rfl) Tryz.underlying102 Tryz.underlying77 (by kernel_rfl) (by kernel_rfl) (laidMet.tail (laidMet.tail h)))
theorem names_of {W : World} {x y z u : String × DataW Unit} {r : List (String × DataW Unit)} (h : laidMet Tryz.prog (x :: y :: z :: u :: ("lifelodge/lifelodgeref.verbNames", .slice (namesT.map fun b => .lit (.string b)) []) :: r) W) : StrsAt W.heap.size W 1 namesT :=
  strs_of_head (t := 41) (by kernel_rfl) (by kernel_rfl) Tryz.underlying41 Tryz.underlying9 (by kernel_rfl) (by decide) (laidMet.tail (laidMet.tail (laidMet.tail (laidMet.tail h))))
theorem forms_of {W : World} {x y z u v : String × DataW Unit} {r : List (String × DataW Unit)} (h : laidMet Tryz.prog (x :: y :: z :: u :: v :: ("lifelodge/lifelodgeref.form", .slice (formsT.map fun b => .lit (.string b)) []) :: r) W) : StrsAt W.heap.size W 2 formsT :=
  strs_of_head (t := 41) (by kernel_rfl) (by kernel_rfl) Tryz.underlying41 Tryz.underlying9 (by kernel_rfl) (by decide) (laidMet.tail (laidMet.tail (laidMet.tail (laidMet.tail (laidMet.tail h)))))
theorem verbs_of {W : World} {x y z u v a b c : String × DataW Unit} {r : List (String × DataW Unit)} (h : laidMet Tryz.prog (x :: y :: z :: u :: v :: a :: b :: c :: ("lifelodge/speech.verbs", .agg (namesT.map fun b => .lit (.string b))) :: r) W) : VerbsAt W.heap.size W 0 := by
  have h1 := verbs_of_head (P := Tryz.prog) (W := W) (name := "lifelodge/speech.verbs") (bs := namesT) (g := 0) (t := 32) (by kernel_rfl) (by kernel_rfl) Tryz.underlying32 Tryz.underlying9 (by kernel_rfl) (by kernel_rfl) (laidMet.tail (laidMet.tail (laidMet.tail (laidMet.tail (laidMet.tail (laidMet.tail (laidMet.tail (laidMet.tail h))))))))
  exact ⟨World.block_lt_of_cell? W _ (h1 0 _ (names_at 0 (by decide))), fun k hk => h1 k _ (names_at k hk)⟩
theorem ask_clean : askF [99, 108, 101, 97, 110] = (0, ⟨10, [], [], 0, 0, 0, []⟩) := by kernel_rfl
theorem write_clean : writeF ⟨10, [], [], 0, 0, 0, []⟩ = ([99, 108, 101, 97, 110], 0) := by kernel_rfl
theorem sl_nil (w : World) : Sl w 2 16 none 0 0 (([] : List (Int × Int)).flatMap encCell) := ⟨rfl, Nat.le_refl _, by unfold maxLen; omega, fun _ => rfl, by omega, fun h => absurd h (Nat.lt_irrefl _)⟩
set_option maxHeartbeats 4000000 in
theorem requestW_any (q : Ask) (a : Option Addr) (cap : Nat) (w : World) (hs : Sl w 2 16 a q.cells.length cap (q.cells.flatMap encCell)) :
    Calls Tryz.prog 5 #[.agg (q.cells' (.slice a q.cells.length cap)).toArray] w fun e w' => ∃ a1 c1, e = .returned (.agg (q.cells' (.slice a1 q.cells.length c1)).toArray) ∧ Below w.heap.size w w' ∧ Sl w' 2 16 a1 q.cells.length c1 (q.cells.flatMap encCell) := by
  obtain ⟨v, nm, ot, b, l, m, zs⟩ := q
  have HS := Lib.hid hs
  show Calls Tryz.prog 5 #[.agg #[.int .i64 v, .string (txt nm), .string (txt ot), .int .i64 b, .int .i64 l, .int .i64 m, .slice a zs.length cap]] w _
  dsimp only at hs ⊢
  obtain ⟨n, hn⟩ : ∃ n, n = txt nm := ⟨_, rfl⟩
  obtain ⟨o, ho⟩ : ∃ o, o = txt ot := ⟨_, rfl⟩
  rw [← hn, ← ho]
  have hwide := hs.wide
  obtain ⟨k, hk⟩ : ∃ k, k = zs.length := ⟨_, rfl⟩
  have hc : ∀ W, Below w.heap.size w W → w.heap.size ≤ W.heap.size → Calls Tryz.prog 11 #[.slice a k cap] W (Cells W zs) := fun W hW hz => by
    rw [hk]; exact cells_any zs a cap W (hs.below (by omega) hW)
  rw [← hk] at hwide ⊢
  have HC := Lib.hid hc
  have HK := Lib.hid hk
  have HNM := Lib.hid hn
  have HOT := Lib.hid ho
  clear hs hk hc hn ho
  go_enter Tryz.func5, Tryz.ntmps5
  go_wp2_with fail
  refine (HC.out _ (((Below.refl _ _).alloc (Nat.le_refl _) _).alloc (by simp) _) (by simp; omega)).mono ?_
  rintro e w2 ⟨u, rfl, hb, ho⟩
  obtain ⟨va, vc, rfl⟩ := own_form ho
  rw [← HK.out] at ho
  have hsl : Sl w2 2 16 va k vc (zs.flatMap encCell) := sl_own_up (bytes := 16) ho (by omega) hwide (Below.refl _ _)
  have HO := Lib.hid ho
  rw [← HK.out]
  clear ho
  have hb1 := hb.block w.heap.size (by simp; omega)
  rw [blk_alloc (blk_last w _ rfl)] at hb1
  have hb2 := hb.block (w.heap.size + 1) (by simp)
  rw [blk_last _ _ (by simp)] at hb2
  have hB := (((Below.refl w.heap.size w).alloc (Nat.le_refl _) (.cells #[.int .i64 v, .string n, .string o, .int .i64 b, .int .i64 l, .int .i64 m, .slice a k cap] 26)).alloc (by simp) _).trans (hb.mono (by simp; omega))
  clear hb
  have x6 := Joins.cell_of_block hb1 6
  have f6 := Joins.unfrozen_of_block hb1 6
  have hs1 := Joins.block_setCell (i := 6) hb1 (.slice va k vc)
  simp only [List.setIfInBounds_toArray, List.set_cons_zero, List.set_cons_succ] at hs1
  have hs2 := blk_set hb2 (a := ⟨w.heap.size, 6, none⟩) (by simp) (.slice va k vc)
  have hc2 : CellsAt w.heap.size w2 (.slice va zs.length vc) zs := by
    have h1 := HO.out
    rw [HK.out] at h1
    exact ⟨Row.of_own h1, fun g hg => by have h2 := (h1.lt g hg).1; simp at h2; omega⟩
  have hc3 : CellsAt w.heap.size (w2.setCell ⟨w.heap.size, 6, none⟩ (.slice va k vc)) (.slice va zs.length vc) zs := hc2.far hb1 (fun i hi => Below.heap_setCell _ _ _ _ hi)
  have hc4 := hc3.far hs2 (fun i hi => set7_other (.int .i64 v) (.string n) (.string o) (.int .i64 b) (.int .i64 l) (.int .i64 m) (.slice va k vc) hi)
  have hq := set7_blk (.int .i64 v) (.string n) (.string o) (.int .i64 b) (.int .i64 l) (.int .i64 m) (.slice va k vc) hs2
  have hB9 : Below w.heap.size w (set7 (w2.setCell ⟨w.heap.size, 6, none⟩ (.slice va k vc)) (w.heap.size + 1) (.int .i64 v) (.string n) (.string o) (.int .i64 b) (.int .i64 l) (.int .i64 m) (.slice va k vc)) :=
    (hB.setCell (by simp) _).trans ((set7_keeps (F := fun i => i = w.heap.size + 1) _ _ _ _ _ _ _ (Keeps.refl _ _) (fun _ => rfl)).toBelow (fun i e => by omega) (hB.setCell (by simp) _).size)
  obtain ⟨⟨y0, y1, y2, y3, y4, y5, y6⟩, -⟩ := seven hs1
  obtain ⟨⟨z0, z1, z2, z3, z4, z5, z6⟩, zf⟩ := seven hs2
  have g0 := zf 0; have g1 := zf 1; have g2 := zf 2; have g3 := zf 3; have g4 := zf 4; have g5 := zf 5; have g6 := zf 6
  obtain ⟨⟨p0, p1, p2, p3, p4, p5, p6⟩, -⟩ := seven hq
  have HC4 := Lib.hid hc4
  have HB9 := Lib.hid hB9
  simp only [set7] at p0 p1 p2 p3 p4 p5 p6
  simp at x6
  clear hs1 hs2 hq hb1 hb2 zf hc2 hc3 hc4 hB9 hB hsl
  go_wp2_with fail
  refine bodyPost_ret (v := .agg #[.int .i64 v, .string n, .string o, .int .i64 b, .int .i64 l, .int .i64 m, .slice va k vc]) (by simp [results, Tryz.results5, go_sem, p0, p1, p2, p3, p4, p5, p6]) rfl ⟨va, vc, by rw [HNM.out, HOT.out]; rfl, HB9.out, ?_⟩
  have h1 := HC4.out
  obtain ⟨a', c', e, hs⟩ := h1.1.sl (bytes := 16) (by rw [← HK.out]; exact hwide)
  simp only [Value.slice.injEq, true_and] at e
  obtain ⟨rfl, rfl⟩ := e
  rw [HK.out]
  rw [HK.out] at hs
  exact hs
set_option maxHeartbeats 4000000 in
theorem law_speechWrites (q : Ask) (a : Option Addr) (cap : Nat) (w : World) (hs : Sl w 2 16 a q.cells.length cap (q.cells.flatMap encCell)) (hz : ∀ z ∈ q.cells, GoodCell z) (hi : I64 q.verb ∧ I64 q.n) (hl : q.name.length ≤ 140737488351232 ∧ q.other.length ≤ 140737488351232) (hV : VerbsAt w.heap.size w 0) (ht : Tab w.heap.size w) (hVN : StrsAt w.heap.size w 1 namesT) (hFM : StrsAt w.heap.size w 2 formsT) :
    Calls Tryz.prog 3 #[.agg (q.cells' (.slice a q.cells.length cap)).toArray] w fun e w' => e = .returned (.bool true) ∧ Below w.heap.size w w' := by
  have HRQ := Lib.hid (fun W (hW : Below w.heap.size w W) => requestW_any q a cap W (hs.below (by decide) hW))
  have HWR := Lib.hid (fun W a1 c1 (hW : Below w.heap.size w W) (h : Sl W 2 16 a1 q.cells.length c1 (q.cells.flatMap encCell)) => write_any w.heap.size q a1 c1 W h hz hi hl (hV.on hW) (ht.on hW) hW.size)
  have HRW := Lib.hid (fun W (hW : Below w.heap.size w W) => refWrite_any w.heap.size q a cap W (hs.below (by decide) hW) hz hi hl (hVN.on hW) (hFM.on hW) hW.size)
  have HCL := Lib.hid (fun W (hW : Below w.heap.size w W) => write_any w.heap.size ⟨10, [], [], 0, 0, 0, []⟩ none 0 W (sl_nil W) (fun z hz => by cases hz) ⟨by show I64 10; unfold I64; omega, by show I64 0; unfold I64; omega⟩ ⟨Nat.zero_le _, Nat.zero_le _⟩ (hV.on hW) (ht.on hW) hW.size)
  rw [write_clean] at HCL
  obtain ⟨⟨L, er⟩, hw⟩ : ∃ x, x = writeF q := ⟨_, rfl⟩
  rw [← hw] at HWR HRW
  obtain ⟨T, hT⟩ : ∃ x, x = txt L := ⟨_, rfl⟩
  dsimp only at HWR HRW HCL
  rw [← hT] at HWR HRW
  obtain ⟨v, nm, ot, rb, rl, nn, zs⟩ := q
  unfold Ask.cells' at HRQ HWR HRW HCL
  dsimp only at HRQ HWR HRW HCL
  show Calls Tryz.prog 3 #[.agg #[.int .i64 v, .string (txt nm), .string (txt ot), .int .i64 rb, .int .i64 rl, .int .i64 nn, .slice a zs.length cap]] w _
  obtain ⟨N, hN⟩ : ∃ x, x = txt nm := ⟨_, rfl⟩
  obtain ⟨O, hO⟩ : ∃ x, x = txt ot := ⟨_, rfl⟩
  obtain ⟨n, hn⟩ : ∃ x, x = zs.length := ⟨_, rfl⟩
  rw [← hN, ← hO, ← hn] at HRQ HWR HRW
  rw [← hN, ← hO, ← hn]
  clear hs hz hi hl hV ht hVN hFM hw hT hN hO hn
  have hB0 : Below w.heap.size w (w.alloc (.cells #[.int .i64 v, .string N, .string O, .int .i64 rb, .int .i64 rl, .int .i64 nn, .slice a n cap] 26)) := (Below.refl _ _).alloc (Nat.le_refl _) _
  have hx0 : (w.alloc (.cells #[.int .i64 v, .string N, .string O, .int .i64 rb, .int .i64 rl, .int .i64 nn, .slice a n cap] 26)).heap[w.heap.size]? = some (.cells #[.int .i64 v, .string N, .string O, .int .i64 rb, .int .i64 rl, .int .i64 nn, .slice a n cap] 26 (0, 0)) := blk_last w _ rfl
  obtain ⟨V0, hV0⟩ : ∃ V, V = w.alloc (.cells #[.int .i64 v, .string N, .string O, .int .i64 rb, .int .i64 rl, .int .i64 nn, .slice a n cap] 26) := ⟨_, rfl⟩
  rw [← hV0] at hB0 hx0
  have HB0 := Lib.hid hB0
  have HX0 := Lib.hid hx0
  have HV0 := Lib.hid hV0
  obtain ⟨⟨x0, x1, x2, x3, x4, x5, x6⟩, -⟩ := seven hx0
  clear hB0 hx0 hV0
  go_enter Tryz.func3, Tryz.ntmps3
  go_upto_region 1 with fail
  rw [← HV0.out]
  go_wp2_with fail
  refine (HRQ.out _ HB0.out).mono ?_
  rintro e w1 ⟨a1, c1, rfl, hb1, hs1⟩
  have HB1 := Lib.hid (HB0.out.trans (hb1.mono HB0.out.size))
  have HC1 := Lib.hid hb1
  have HS1 := Lib.hid hs1
  clear hb1 hs1
  go_wp2_with fail
  refine (HWR.out _ _ _ HB1.out HS1.out).mono ?_
  rintro e w2 ⟨rfl, hb2⟩
  have HB2 := Lib.hid (HB1.out.trans (hb2.mono HB1.out.size))
  have HC2 := Lib.hid (HC1.out.trans (hb2.mono HC1.out.size))
  clear hb2 x0 x1 x2 x3 x4 x5 x6
  obtain ⟨⟨x0, x1, x2, x3, x4, x5, x6⟩, -⟩ := seven ((HC2.out.block _ (lt_of_block HX0.out)).trans HX0.out)
  go_wp2_with fail
  refine (HRW.out _ HB2.out).mono ?_
  rintro e w3 ⟨rfl, hb3⟩
  have HB3 := Lib.hid (HB2.out.trans (hb3.mono HB2.out.size))
  clear hb3 x0 x1 x2 x3 x4 x5 x6
  go_wp2_with fail
  refine (HCL.out _ HB3.out).mono ?_
  rintro e w4 ⟨rfl, hb4⟩
  have HB4 := Lib.hid (HB3.out.trans (hb4.mono HB3.out.size))
  clear hb4
  have htx : ((txt [99, 108, 101, 97, 110]).toList == [99, 108, 101, 97, 110]) = true := by rw [txt_toList]; rfl
  go_wp2_with fail
  go_ret
  exact ⟨by simp, HB4.out⟩
section
open Go.ChangeShapes Go.WideShapes Go.ChangeAt
noncomputable def laidWorld_speechWrites (os : Os) : World := { World.holding Tryz.prog os ⟨#[], #[], []⟩ with heap := ((pushErr 9 135 137 [105, 110, 118, 97, 108, 105, 100, 32, 115, 121, 110, 116, 97, 120] (pushErr 10 135 137 [118, 97, 108, 117, 101, 32, 111, 117, 116, 32, 111, 102, 32, 114, 97, 110, 103, 101] (pushRow 2 9 Rows.laid_lifelodge_lifelodgeref_form (pushRow 1 9 Rows.laid_lifelodge_lifelodgeref_verbNames ((((((World.holding Tryz.prog os ⟨#[], #[], []⟩).heap).modify 5 (laidIn (tabV Rows.laid_math_bits_deBruijn32tab))).modify 6 (laidIn (tabV Rows.laid_math_bits_deBruijn64tab))).modify 3 (laidIn (tabV Rows.laid_internal_strconv_uint64pow10))).modify 8 (laidIn (tabV Rows.laid_unicode_utf8_acceptRanges))))))).modify 0 (laidIn (tabV Rows.laid_lifelodge_speech_verbs))).modify 7 (laidIn (tabV Rows.laid_unicode_utf8_first)) }
set_option maxRecDepth 100000 in
theorem laidMet_speechWrites (os : Os) : laidMet Tryz.prog Rows.speechWritesRow.laid ((laidWorld_speechWrites os).forCall (fun _ _ => 0) ⟨#[], #[.agg #[.int .i64 0, .string ⟨#[]⟩, .string ⟨#[]⟩, .int .i64 0, .int .i64 0, .int .i64 0, .slice none 0 0]], []⟩).memory := laidMet_of_run' 8 (by kernel_rfl) (by kernel_rfl)
set_option maxRecDepth 100000 in
theorem reads_speechWrites (os : Os) {H : Type} (enc : TypeId × Value → H) : ∃ places, DataW.whole enc Tryz.prog ((laidWorld_speechWrites os).forCall (fun _ _ => 0) ⟨#[], #[.agg #[.int .i64 0, .string ⟨#[]⟩, .string ⟨#[]⟩, .int .i64 0, .int .i64 0, .int .i64 0, .slice none 0 0]], []⟩).memory Tryz.f3.params.toList Rows.speechWritesSpec.vars false #[.agg #[.int .i64 0, .string ⟨#[]⟩, .string ⟨#[]⟩, .int .i64 0, .int .i64 0, .int .i64 0, .slice none 0 0]].toList 8 = some ([.agg [.lit (.int .i64 0), .lit (.string []), .lit (.string []), .agg [.lit (.int .i64 0), .lit (.int .i64 0)], .lit (.int .i64 0), .nil]], [], places) := ⟨[], by kernel_rfl⟩
set_option maxRecDepth 100000 in
theorem lifted_speechWrites (os : Os) (started : os.Started) (H : Type) (enc : TypeId × Value → H) (F : Stop.Interp) (walk : ∀ (W : World) (v0 : Value), laidMetH Tryz.prog Rows.speechWritesRow.laid W → Is_request W v0 → Calls Tryz.prog 3 #[v0] W fun e w' => e = .returned (.bool true) ∧ Below W.heap.size W w') :
    ReturnsInHanded {} Tryz.checked os 3 .any ((OpenSpec.ofChange Rows.speechWritesSpec).preRow enc Tryz.prog Tryz.f3 Rows.speechWritesRow.domain false Rows.speechWritesRow.laid) (((OpenSpec.ofChange Rows.speechWritesSpec).at F).post enc Tryz.prog Tryz.f3 false true false false) := by
  obtain ⟨places, hx⟩ := reads_speechWrites os enc
  refine returnsInHanded_of_row (C := Tryz.checked) (s := (OpenSpec.ofChange Rows.speechWritesSpec)) own started (by kernel_rfl) Tryz.func3
    (witness_row_ref (enc := enc) (C := Tryz.checked) false (laidWorld_speechWrites os) #[.agg #[.int .i64 0, .string ⟨#[]⟩, .string ⟨#[]⟩, .int .i64 0, .int .i64 0, .int .i64 0, .slice none 0 0]] rfl (by kernel_rfl) (by kernel_rfl) (by kernel_rfl)
      (OpenSpec.preRow_of_cond 8 hx (by kernel_rfl) (fun k hk => by cases hk) (by kernel_rfl) (laidMet_speechWrites os))) ?_
  intro W base args ds gs before hval0 hW hcnd hk hsz0 hL _ _
  have hval : ∀ (j : Nat) t v, Tryz.f3.params[j]? = some t → args[j]? = some v → Value.okWide Tryz.prog W .any base t v := hval0
  have hW' := hW
  obtain ⟨p, q, hA0, hV, rfl, hfz, hnd⟩ := hW
  have hA : DataW.TrodAll enc Tryz.prog W 0 (fun _ => true) true Tryz.f3.params.toList args.toList ds p := hA0
  rw [Tryz.params3] at hA hval
  obtain ⟨rfl, rfl⟩ := trodVars_none hV
  have hB := hA
  obtain ⟨v0, vs0, d0, ds0, p0, q0, hargs, rfl, rfl, h0, r0⟩ := trodAll_cons hA
  obtain ⟨rfl, rfl, rfl⟩ := trodAll_nil r0
  obtain rfl : args = #[v0] := by cases args; simp_all
  have hsz : (DataW.weightsEach Tryz.prog [26] [d0]).all (· ≤ reachBytes) = true := hsz0
  have i0 := open_request (hval 0 26 v0 rfl rfl) h0 (weights_le hsz 0 rfl rfl)
  refine (walk W v0 hL i0).mono fun e W' ⟨he, bel⟩ => ?_
  subst he
  exact ⟨_, rfl, _, _, _, [], _, [], hW', trodAll_mk1 (shut_bool Tryz.underlying4 _), trodAll_below laidOut (by kernel_rfl) hB bel, rfl, bel.frame _, fun h => by cases h⟩
theorem said_speechWrites (walk : ∀ (W : World) (v0 : Value), laidMetH Tryz.prog Rows.speechWritesRow.laid W → Is_request W v0 → Calls Tryz.prog 3 #[v0] W fun e w' => e = .returned (.bool true) ∧ Below W.heap.size W w') : Rows.speechWritesRow.holds Tryz.pinned (OpenSpec.ofChange Rows.speechWritesSpec) :=
  OpenClaim.holds_of_cond 3 Tryz.f3 rfl rfl rfl rfl rfl rfl rfl ⟨rfl, rfl, rfl, rfl, rfl⟩ rfl rfl rfl rfl rfl (by kernel_rfl) Tryz.func3 (by kernel_rfl)
    (of_decide_eq_true (by kernel_rfl)) (by unfold Func.isWrapper; first | (rw [if_pos (by decide +kernel)]; kernel_rfl) | (rw [if_neg (by decide +kernel)]; exact ⟨rfl, rfl⟩))
    (fun os started H enc _ F => by rw [OpenClaim.pre_eq_preRow]; exact lifted_speechWrites os started H enc F walk)
theorem plain_speechWrites (f : FuncId) (fn : Func) (hf : Tryz.pinned.checked.prog.funcNamed "lifelodge/lifelodgelaw.SpeechWrites" = some f) (hfn : Tryz.pinned.checked.prog.funcs[f]? = some fn) :
    true = Tryz.pinned.checked.prog.looks [] ∧ ∀ (j : Nat) t, fn.params[j]? = some t → Tryz.pinned.checked.prog.wantsStandIn t = false := by
  obtain rfl : f = 3 := Option.some.inj ((show Tryz.prog.funcNamed "lifelodge/lifelodgelaw.SpeechWrites" = some 3 by kernel_rfl).symm.trans hf) |>.symm
  obtain rfl : fn = Tryz.f3 := (Option.some.inj (Tryz.func3.symm.trans hfn)).symm
  refine ⟨by kernel_rfl, fun j t ht => ?_⟩
  rw [Tryz.params3] at ht
  have hall : ∀ t ∈ [26], Tryz.prog.wantsStandIn t = false := by
    intro t ht
    simp only [List.mem_cons, List.not_mem_nil, or_false] at ht
    rcases ht with rfl <;> kernel_rfl
  exact hall t (by simpa using Array.mem_of_getElem? ht)
theorem over_speechWrites (walk : ∀ (W : World) (v0 : Value), laidMetH Tryz.prog Rows.speechWritesRow.laid W → Is_request W v0 → Calls Tryz.prog 3 #[v0] W fun e w' => e = .returned (.bool true) ∧ Below W.heap.size W w') : Rows.SpeechWritesCardSaid :=
  Claim7.holds_tied_plain_at .later [] _ _ _ _ (said_speechWrites walk) (fun _ h => by cases h) (by kernel_rfl) (fun _ h => by cases h) speechWrites_row_tie rfl ⟨rfl, rfl⟩ (by kernel_rfl) rfl plain_speechWrites (by kernel_rfl)
end
theorem speechWrites_proved : Rows.SpeechWritesCardSaid := over_speechWrites fun W _ hl ⟨q, cv, zs, e1, hg, ⟨a, cap, e2, hs⟩, hz⟩ => by
  subst e1
  subst e2
  obtain ⟨v, nm, ot, b, l, m⟩ := q
  obtain ⟨g1, g2, g3, g4, g5, g6⟩ := hg
  have h := law_speechWrites ⟨v, nm.data.toList, ot.data.toList, b, l, m, zs⟩ a cap W hs hz ⟨g1, g6⟩ ⟨by simpa using g2, by simpa using g3⟩ (verbs_of hl) (pow_of hl) (names_of hl) (forms_of hl)
  unfold Ask.cells' at h
  dsimp only at h
  rw [txt_eta, txt_eta] at h
  exact h
end Go.Proofs.YtdmamecfmfhlmaaGreatDoor
