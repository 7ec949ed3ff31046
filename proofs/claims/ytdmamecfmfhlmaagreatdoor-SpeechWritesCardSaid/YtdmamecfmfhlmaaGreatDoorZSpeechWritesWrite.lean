/-
  The program's Write.
-/
import Derived.Test.YtdmamecfmfhlmaaGreatDoorZSpeechWritesSameReqs
import Derived.Test.YtdmamecfmfhlmaaGreatDoorZSpeechWritesReadAny
namespace Go.Proofs.YtdmamecfmfhlmaaGreatDoor
set_option maxRecDepth 100000
open Go.RowKit

/-- The program's table of verbs. -/
def VerbsAt (B : Nat) (w : World) (g : Nat) : Prop := g < B ∧ ∀ k, k < 11 → w.cell? ⟨g, k, none⟩ = some (.string (txt (verbT k)))
theorem VerbsAt.on {B g : Nat} {w w' : World} (h : VerbsAt B w g) (hb : Below B w w') : VerbsAt B w' g := ⟨h.1, fun k hk => (hb.cell (p := ⟨g, k, none⟩) h.1).trans (h.2 k hk)⟩
theorem addL (s t : List UInt8) (W : World) (h : s.length + t.length ≤ 1000000000000000000) : (Op.stringOp .add (txt s) (txt t)).run Tryz.prog W = .ok (.string (txt (s ++ t))) W := by
  rw [run_string_add_sum (P := Tryz.prog) W _ _ (by rw [txt_size, txt_size]; omega), txt_add]
theorem writeF_no {q : Ask} (h : q.verb < 1 ∨ 10 < q.verb) : writeF q = ([], 4) := by unfold writeF; rw [if_pos h]
theorem writeF_at {q : Ask} {k : Nat} (hk : q.verb = (k : Nat)) (h1 : 1 ≤ k) (h2 : k ≤ 10) : writeF q = writeT (lineL k q) q := by
  unfold writeF
  rw [if_neg (by omega), hk, Int.toNat_natCast]
theorem writeT_err {L : List UInt8} {q qb : Ask} {er : Int} (h : (er, qb) = askF L) (he : er ≠ 0) : writeT L q = ([], er) := by
  unfold writeT; rw [← h]; simp only; rw [if_pos he]
theorem writeT_ok {L : List UInt8} {q qb : Ask} (h : (0, qb) = askF L) (hs : sameA qb q = true) : writeT L q = (L, 0) := by
  unfold writeT; rw [← h]; simp only; rw [if_neg (by decide), if_pos hs]
theorem writeT_no {L : List UInt8} {q qb : Ask} (h : (0, qb) = askF L) (hs : sameA qb q = false) : writeT L q = ([], 2) := by
  unfold writeT; rw [← h]; simp only; rw [if_neg (by decide), if_neg (by rw [hs]; decide)]
theorem CellsAt.slR {base : Nat} {w : World} {a : Option Addr} {c : Nat} {zs : List (Int × Int)} (h : CellsAt base w (.slice a zs.length c) zs) (hb : zs.length ≤ 6001) : Sl w 2 16 a zs.length c (zs.flatMap encCell) := by
  obtain ⟨a', c', e, hs⟩ := h.1.sl (bytes := 16) (by omega)
  simp only [Value.slice.injEq, true_and] at e
  obtain ⟨rfl, rfl⟩ := e
  exact hs
set_option maxHeartbeats 40000000 in
theorem write_any (B : Nat) (q : Ask) (a : Option Addr) (cap : Nat) (w : World) (hs : Sl w 2 16 a q.cells.length cap (q.cells.flatMap encCell)) (hz : ∀ z ∈ q.cells, GoodCell z) (hi : I64 q.verb ∧ I64 q.n) (hl : q.name.length ≤ 140737488351232 ∧ q.other.length ≤ 140737488351232) (hV : VerbsAt B w 0) (ht : Tab B w) (hB : B ≤ w.heap.size) :
    Calls Tryz.prog 4 #[.agg (q.cells' (.slice a q.cells.length cap)).toArray] w fun e w' => e = .returned (.tuple #[.string (txt (writeF q).1), .int .i64 (writeF q).2]) ∧ Below w.heap.size w w' := by
  obtain ⟨R, hR⟩ : ∃ R, R = writeF q := ⟨_, rfl⟩
  rw [← hR]
  have HR := Lib.hid hR
  have HSM := Lib.hid (fun (back : Ask) (b : Option Addr) (cb : Nat) (W : World) (hW : Below w.heap.size w W) (h1 : Sl W 2 16 b back.cells.length cb (back.cells.flatMap encCell)) => sameP_any back q b a cb cap W h1 (hs.below (by decide) hW))
  have HAT := Lib.hid (fun (k : Nat) => writeF_at (q := q) (k := k))
  have HNO := Lib.hid (writeF_no (q := q))
  have HL1 := Lib.hid (fun W => ruleT_any q.b q.l W)
  have HIT := Lib.hid (fun W (hW : Below w.heap.size w W) => itoaW_any B q.n W hi.2 (ht.on (hW.mono hB)))
  have HLN := Lib.hid (fun k => (rfl : lineL k q = headL k q ++ tailL k q))
  obtain ⟨v, nm, ot, rb, rl, nn, zs⟩ := q
  obtain ⟨X, hX⟩ : ∃ X : Array Value, X = #[.int .i64 v, .string (txt nm), .string (txt ot), .int .i64 rb, .int .i64 rl, .int .i64 nn, .slice a zs.length cap] := ⟨_, rfl⟩
  show Calls Tryz.prog 4 #[.agg #[.int .i64 v, .string (txt nm), .string (txt ot), .int .i64 rb, .int .i64 rl, .int .i64 nn, .slice a zs.length cap]] w _
  dsimp only at hs hz hi hl HAT HNO HL1 HIT
  have hwide := hs.wide
  obtain ⟨n, hn⟩ : ∃ n, n = zs.length := ⟨_, rfl⟩
  obtain ⟨N, hN⟩ : ∃ x, x = txt nm := ⟨_, rfl⟩
  obtain ⟨O, hO⟩ : ∃ x, x = txt ot := ⟨_, rfl⟩
  have HSQ := Lib.hid hs
  have HZ := Lib.hid hz
  have HV := Lib.hid hV
  have HT := Lib.hid ht
  have HBB := Lib.hid hB
  have HL := Lib.hid hl
  have HIV := Lib.hid hi.1
  have HIN := Lib.hid hi.2
  rw [← hn] at hwide
  unfold Ask.cells' at HSM
  dsimp only at HSM
  rw [← hN, ← hO, ← hn] at HSM
  have HB0 := Lib.hid (show Below w.heap.size w (w.alloc (.cells #[.int .i64 v, .string N, .string O, .int .i64 rb, .int .i64 rl, .int .i64 nn, .slice a n cap] 26)) from (Below.refl _ _).alloc (Nat.le_refl _) _)
  have HX0 := Lib.hid (show (w.alloc (.cells #[.int .i64 v, .string N, .string O, .int .i64 rb, .int .i64 rl, .int .i64 nn, .slice a n cap] 26)).heap[w.heap.size]? = some (.cells #[.int .i64 v, .string N, .string O, .int .i64 rb, .int .i64 rl, .int .i64 nn, .slice a n cap] 26 (0, 0)) from blk_last w _ rfl)
  rw [← hN, ← hO, ← hn]
  have HN := Lib.hid hn
  have HNM := Lib.hid hN
  have HOT := Lib.hid hO
  clear hs hz hV ht hB hl hi hR hX hn hN hO
  by_cases hlow : v < 1
  · have HF := Lib.hid (HR.out.trans (HNO.out (by omega)))
    go_enter Tryz.func4, Tryz.ntmps4
    go_wp2_with fail
    exact bodyPost_ret (v := .tuple #[.string ⟨#[]⟩, .int .i64 4]) (by simp [results, Tryz.results4, go_sem]) rfl ⟨by rw [HF.out]; rfl, HB0.out⟩
  by_cases hhi : 10 < v
  · have HF := Lib.hid (HR.out.trans (HNO.out (by omega)))
    have t1 : (11 : Int) ≤ v := by omega
    go_enter Tryz.func4, Tryz.ntmps4
    go_wp2_with fail
    exact bodyPost_ret (v := .tuple #[.string ⟨#[]⟩, .int .i64 4]) (by simp [results, Tryz.results4, go_sem]) rfl ⟨by rw [HF.out]; rfl, HB0.out⟩
  obtain ⟨K, hK⟩ : ∃ K : Nat, v = (K : Nat) := ⟨v.toNat, by omega⟩
  have hK1 : 1 ≤ K := by omega
  have hK2 : K ≤ 10 := by omega
  subst hK
  obtain ⟨L, hL⟩ : ∃ L, L = lineL K ⟨(K : Nat), nm, ot, rb, rl, nn, zs⟩ := ⟨_, rfl⟩
  have HW := Lib.hid (HR.out.trans (HAT.out K rfl hK1 hK2))
  rw [← hL] at HW
  have HRD := Lib.hid (fun W => read_any_line L W)
  obtain ⟨⟨er, bv, bn, bo, bb, bl, bx, bz⟩, hx⟩ : ∃ x, x = askF L := ⟨_, rfl⟩
  have hfew := ask_few L
  rw [← hx] at HRD hfew
  dsimp only at hfew
  have HASK := Lib.hid hx
  obtain ⟨LT, hLT⟩ : ∃ x, x = txt L := ⟨_, rfl⟩
  rw [← hLT] at HRD
  have HLT := Lib.hid hLT
  have HLL := Lib.hid hL
  clear hx hLT hL hlow hhi
  obtain ⟨V0, hV0⟩ : ∃ V, V = w.alloc (.cells #[.int .i64 (K : Nat), .string N, .string O, .int .i64 rb, .int .i64 rl, .int .i64 nn, .slice a n cap] 26) := ⟨_, rfl⟩
  rw [← hV0] at HB0 HX0
  have HV0 := Lib.hid hV0
  clear hV0
  have hcase : K = 1 ∨ K = 2 ∨ K = 3 ∨ K = 4 ∨ K = 5 ∨ K = 6 ∨ K = 7 ∨ K = 8 ∨ K = 9 ∨ K = 10 := by omega
  rcases hcase with rfl | rfl | rfl | rfl | rfl | rfl | rfl | rfl | rfl | rfl
  · have hvt := (HV.out.on (HB0.out.mono HBB.out)).2 1 (by decide)
    obtain ⟨⟨x0, x1, x2, x3, x4, x5, x6⟩, -⟩ := seven HX0.out
    obtain ⟨VT, hVT⟩ : ∃ x, x = txt (verbT 1) := ⟨_, rfl⟩
    rw [← hVT] at hvt
    have hB00 := Lib.hid (Below.refl V0.heap.size V0)
    obtain ⟨A1, hA1⟩ : ∃ x, x = txt ([32] ++ nm) := ⟨_, rfl⟩
    obtain ⟨S1, hS1⟩ : ∃ x, x = txt (verbT 1 ++ ([32] ++ nm)) := ⟨_, rfl⟩
    have d1 : ∀ W, (Op.stringOp .add ({ data := #[32] } : ByteArray) N).run Tryz.prog W = .ok (.string A1) W := fun W => by rw [HNM.out, hA1]; exact addL [32] nm W (by have := HL.out.1; simp <;> omega)
    have hv5 : (verbT 1).length ≤ 5 := by decide
    have hz1 : (verbT 1).length + ([32] ++ nm).length ≤ 1000000000000000000 := by have := HL.out.1; simp only [List.length_append, List.length_singleton]; omega
    have hz2 : (verbT 1 ++ ([32] ++ nm)).length ≤ 140737488351300 := by have := HL.out.1; simp only [List.length_append, List.length_singleton]; omega
    have d2 : ∀ W, (Op.stringOp .add VT A1).run Tryz.prog W = .ok (.string S1) W := fun W => by rw [hVT, hA1, hS1]; exact addL _ _ W hz1
    obtain ⟨re, hre⟩ : ∃ x, x = (if goodF rb rl = true then (0 : Int) else 3) := ⟨_, rfl⟩
    rw [← hre] at HL1
    obtain ⟨RT, hRT⟩ : ∃ x, x = txt (ruleL rb rl) := ⟨_, rfl⟩
    rw [← hRT] at HL1
    obtain ⟨A2, hA2⟩ : ∃ x, x = txt ([32] ++ ruleL rb rl) := ⟨_, rfl⟩
    have hnl : (ruleL rb rl).length ≤ 30 := ruleL_len rb rl
    have hz3 : (verbT 1 ++ ([32] ++ nm)).length + ([32] ++ ruleL rb rl).length ≤ 1000000000000000000 := by simp only [List.length_append, List.length_singleton] at hz2 ⊢; omega
    have d3 : ∀ W, (Op.stringOp .add ({ data := #[32] } : ByteArray) RT).run Tryz.prog W = .ok (.string A2) W := fun W => by rw [hRT, hA2]; exact addL [32] (ruleL rb rl) W (by simp <;> omega)
    have d4 : ∀ W, (Op.stringOp .add S1 A2).run Tryz.prog W = .ok (.string LT) W := fun W => by rw [hS1, hA2, HLT.out, HLL.out]; exact addL _ _ W hz3
    clear hVT hA1 hS1 hA2 hRT hnl hre
    go_enter Tryz.func4, Tryz.ntmps4
    go_upto_region 1 with fail
    have hV0 : w.alloc (.cells #[.int .i64 1, .string N, .string O, .int .i64 rb, .int .i64 rl, .int .i64 nn, .slice a n cap] 26) = V0 := HV0.out.symm
    rw [hV0]
    clear hV0
    go_wp2_with fail
    refine (HL1.out _).mono ?_
    rintro e w4 ⟨rfl, hb4⟩
    have HB4 := Lib.hid hb4
    have hs4 := hb4.size
    clear hb4 x0 x1 x2 x3 x4 x5 x6
    go_upto_region 21 with fail
    go_wp2_with fail
    refine (HRD.out _).mono ?_
    rintro e w5 ⟨cv, rfl, hb5, hc5⟩
    obtain ⟨b5, c5, rfl, -⟩ := hc5.1.form
    have HB5 := Lib.hid (HB4.out.trans (hb5.mono HB4.out.size))
    have HC5 := Lib.hid hc5
    unfold Ask.cells'
    dsimp only
    have hs5 := HB5.out.size
    obtain ⟨⟨x0, x1, x2, x3, x4, x5, x6⟩, -⟩ := seven ((HB5.out.block _ (lt_of_block HX0.out)).trans HX0.out)
    have hl5 := lt_of_block ((HB5.out.block _ (lt_of_block HX0.out)).trans HX0.out)
    clear hb5 hc5
    by_cases her : er = 0
    · subst her
      go_wp2_with fail
      refine (HSM.out ⟨bv, bn, bo, bb, bl, bx, bz⟩ _ _ _ ((HB0.out.trans (HB5.out.mono HB0.out.size)).alloc (Nat.le_trans HB0.out.size HB5.out.size) _) ((HC5.out.below ((Below.refl _ _).alloc (Nat.le_refl _) _)).slR hfew)).mono ?_
      rintro e w6 ⟨rfl, hb6⟩
      have HB6 := Lib.hid (((HB0.out.trans (HB5.out.mono HB0.out.size)).alloc (Nat.le_trans HB0.out.size HB5.out.size) _).trans (hb6.mono (Nat.le_trans (Nat.le_trans HB0.out.size HB5.out.size) (by simp))))
      clear hb6
      obtain ⟨sb, hsb⟩ : ∃ b, b = sameA ⟨bv, bn, bo, bb, bl, bx, bz⟩ ⟨((1 : Nat) : Int), nm, ot, rb, rl, nn, zs⟩ := ⟨_, rfl⟩
      rw [← hsb]
      have HSB := Lib.hid hsb
      clear hsb
      cases sb with
      | true =>
        go_wp2_with fail
        refine bodyPost_ret (v := .tuple #[.string LT, .int .i64 0]) (by simp [results, Tryz.results4, go_sem]) rfl ?_
        exact ⟨by rw [HW.out, writeT_ok HASK.out HSB.out.symm, HLT.out], HB6.out⟩
      | false =>
        go_wp2_with fail
        refine bodyPost_ret (v := .tuple #[.string ⟨#[]⟩, .int .i64 2]) (by simp [results, Tryz.results4, go_sem]) rfl ?_
        exact ⟨by rw [HW.out, writeT_no HASK.out HSB.out.symm]; rfl, HB6.out⟩
    · have HER := Lib.hid her
      have t1 : (er == 0) = false := by rw [beq_eq_false_iff_ne]; exact her
      clear her
      go_wp2_with fail
      refine bodyPost_ret (v := .tuple #[.string ⟨#[]⟩, .int .i64 er]) (by simp [results, Tryz.results4, go_sem]) rfl ?_
      exact ⟨by rw [HW.out, writeT_err HASK.out HER.out]; rfl, ((HB0.out.trans (HB5.out.mono HB0.out.size)).alloc (Nat.le_trans HB0.out.size HB5.out.size) _)⟩
  · have hvt := (HV.out.on (HB0.out.mono HBB.out)).2 2 (by decide)
    obtain ⟨⟨x0, x1, x2, x3, x4, x5, x6⟩, -⟩ := seven HX0.out
    obtain ⟨VT, hVT⟩ : ∃ x, x = txt (verbT 2) := ⟨_, rfl⟩
    rw [← hVT] at hvt
    have hB00 := Lib.hid (Below.refl V0.heap.size V0)
    obtain ⟨A1, hA1⟩ : ∃ x, x = txt ([32] ++ nm) := ⟨_, rfl⟩
    obtain ⟨S1, hS1⟩ : ∃ x, x = txt (verbT 2 ++ ([32] ++ nm)) := ⟨_, rfl⟩
    have d1 : ∀ W, (Op.stringOp .add ({ data := #[32] } : ByteArray) N).run Tryz.prog W = .ok (.string A1) W := fun W => by rw [HNM.out, hA1]; exact addL [32] nm W (by have := HL.out.1; simp <;> omega)
    have hv5 : (verbT 2).length ≤ 5 := by decide
    have hz1 : (verbT 2).length + ([32] ++ nm).length ≤ 1000000000000000000 := by have := HL.out.1; simp only [List.length_append, List.length_singleton]; omega
    have hz2 : (verbT 2 ++ ([32] ++ nm)).length ≤ 140737488351300 := by have := HL.out.1; simp only [List.length_append, List.length_singleton]; omega
    have d2 : ∀ W, (Op.stringOp .add VT A1).run Tryz.prog W = .ok (.string S1) W := fun W => by rw [hVT, hA1, hS1]; exact addL _ _ W hz1
    have HS1 := Lib.hid hS1
    have HZ2 := Lib.hid hz2
    have HIC := Lib.hid (fun (x : Int) (hx : I64 x) W (hW : Below w.heap.size w W) => itoaW_any B x W hx (HT.out.on (hW.mono HBB.out)))
    have HSV := Lib.hid (HSQ.out.below (by decide) HB0.out)
    have hnc : n * 16 ≤ 140737488351232 := hwide
    clear hVT hA1 hS1 hz1 hz2 hv5
    go_enter Tryz.func4, Tryz.ntmps4
    go_upto_region 1 with fail
    have hV0 : w.alloc (.cells #[.int .i64 2, .string N, .string O, .int .i64 rb, .int .i64 rl, .int .i64 nn, .slice a n cap] 26) = V0 := HV0.out.symm
    rw [hV0]
    clear hV0
    go_upto_region 12 with fail
    go_loopw [4, 8, 50] (fun sv _ iv wr => ∃ (k : Nat) (L1 : List UInt8), iv = .int .i64 k ∧ k ≤ n ∧ sv = .string (txt L1) ∧ Aside (L1 = (verbT 2 ++ ([32] ++ nm)) ++ cellsL (zs.take k)) ∧ Below V0.heap.size V0 wr) (fun _ _ iv _ => n - (intOf iv).toNat)
    case atStart =>
      refine ⟨0, _, rfl, Nat.zero_le _, by rw [HS1.out], ?_, Below.refl _ _⟩
      show _ = _
      rw [List.take_zero]
      exact (List.append_nil _).symm
    case round =>
      obtain ⟨k, L1, rfl, hk, rfl, HI, hB⟩ := hrel
      have HBR := Lib.hid hB
      have hrs := hB.size
      clear hB
      obtain ⟨S, hS⟩ : ∃ x, x = txt L1 := ⟨_, rfl⟩
      rw [← hS]
      by_cases hlt : k < n
      · obtain ⟨c, hc⟩ : ∃ c, zs[k]? = some c := ⟨zs[k]'(by have := HN.out; omega), by simp⟩
        have hg : GoodCell c := HZ.out c (List.mem_of_getElem? hc)
        obtain ⟨b, o, rfl, hrow⟩ := HSV.out.row (by have := HN.out; omega)
        have hb := HSV.out.lt (by have := HN.out; omega) (by omega)
        have e0 := (HBR.out.cell (p := ⟨b, o + k * 2, none⟩) hb).trans (hrow _ _ (flat_nthC hc).1)
        have e1 : wr.cell? ⟨b, o + k * 2 + 1, none⟩ = some (.int .i64 c.2) := (HBR.out.cell (p := ⟨b, o + k * 2 + 1, none⟩) hb).trans (by have := hrow _ _ (flat_nthC hc).2; rw [← Nat.add_assoc] at this; exact this)
        have htk : zs.take (k + 1) = zs.take k ++ [c] := by rw [List.take_add_one, hc]; rfl
        have HTK := Lib.hid htk
        have hsl : L1.length ≤ 140737488351300 + 132 * k := by
          rw [show L1 = _ from HI.out, List.length_append]
          have h1 := HZ2.out
          have h2 := cellsL_len (zs := zs.take k) (fun z hz => HZ.out z (List.mem_of_mem_take hz))
          rw [List.length_take] at h2
          omega
        have hss : S.size = L1.length := by rw [hS, txt_size]
        obtain ⟨x, y⟩ := c
        have HI1 := Lib.hid hg.1
        have HI2 := Lib.hid hg.2
        obtain ⟨Y0, hY0⟩ : ∃ Y, Y = txt (numL x) := ⟨_, rfl⟩
        obtain ⟨Y1, hY1⟩ : ∃ Y, Y = txt (numL y) := ⟨_, rfl⟩
        have z0 : Y0.size ≤ 65 := by rw [hY0, txt_size]; exact numL_len hg.1
        have z1 : Y1.size ≤ 65 := by rw [hY1, txt_size]; exact numL_len hg.2
        have HY0 := Lib.hid hY0
        have HY1 := Lib.hid hY1
        have HSS := Lib.hid hS
        have i0 : (0 : Int) ≤ (k : Int) := by omega
        have i1 : (k : Int) < (n : Int) := by omega
        dsimp only at e0 e1
        clear hc hg hrow hb htk hY0 hY1 hS
        go_upto_region 14 with fail
        refine wp_namedR ?_
        intro V hV
        have hbV : Below wr.heap.size wr V := by rw [hV]; exact (Below.refl _ _).alloc (Nat.le_refl _) _
        have hxV : V.heap[wr.heap.size]? = some (.cells #[.int .i64 x, .int .i64 y] 35 (0, 0)) := by rw [hV]; exact blk_last wr _ rfl
        have HBV := Lib.hid (HBR.out.trans (hbV.mono HBR.out.size))
        have c0 : ∀ g : Grow V, g.val.cell? ⟨wr.heap.size, 0, none⟩ = some (.int .i64 x) := Grow.cells (Joins.cell_of_block hxV 0)
        have c1 : ∀ g : Grow V, g.val.cell? ⟨wr.heap.size, 1, none⟩ = some (.int .i64 y) := Grow.cells (Joins.cell_of_block hxV 1)
        have hgr : ∀ g : Grow V, Below V0.heap.size V0 g.val := fun g => HBV.out.trans (g.below.mono HBV.out.size)
        have k0 := fun g : Grow V => HIC.out x HI1.out g.val (HB0.out.trans ((hgr g).mono HB0.out.size))
        have k1 := fun g : Grow V => HIC.out y HI2.out g.val (HB0.out.trans ((hgr g).mono HB0.out.size))
        rw [← HY0.out] at k0
        rw [← HY1.out] at k1
        have K0 := Lib.hid k0
        have K1 := Lib.hid k1
        have HGR := Lib.hid hgr
        have n1 : ¬ (9223372036854775807 < 1 + Y0.size) := by omega
        have n2 : ¬ (9223372036854775807 < 1 + Y0.size + 1) := by omega
        have n3 : ¬ (9223372036854775807 < 1 + Y0.size + 1 + Y1.size) := by omega
        have n4 : ¬ (9223372036854775807 < S.size + (1 + Y0.size + 1 + Y1.size)) := by omega
        clear k0 k1 hgr hV hbV hxV e0 e1 hss hsl
        refine wp_region_grow (by kernel_rfl) (by kernel_rfl) ?_
        repeat (go_big_quiet_step ((go_at_call 8; first | (with_reducible exact grow_of (K0.out _)) | (with_reducible exact grow_of (K1.out _)))))
        refine wpQuiet_nil ?_
        intro _ hw'
        obtain ⟨g, hg⟩ := hw'
        subst hg
        go_wp2_with fail
        refine ⟨⟨k + 1, L1 ++ cellL (x, y), by go_num, by omega, ?_, ?_, HGR.out g⟩, by simp [intOf]; omega⟩
        · rw [HSS.out, HY0.out, HY1.out]
          show Value.string (txt L1 ++ (txt [32] ++ txt (numL x) ++ txt [44] ++ txt (numL y))) = _
          rw [txt_add, txt_add, txt_add, txt_add]
          unfold cellL
          simp
        · show _ = _
          rw [HTK.out, cellsL_snoc, show L1 = _ from HI.out, List.append_assoc]
      · obtain rfl : k = n := by omega
        have hfin : LT = S := by
          rw [hS, HLT.out, HLL.out, show L1 = _ from HI.out, HN.out, List.take_length]; rfl
        subst hfin
        clear hS
        go_upto_region 21 with fail
        go_wp2_with fail
        refine (HRD.out _).mono ?_
        rintro e w5 ⟨cv, rfl, hb5, hc5⟩
        obtain ⟨b5, c5, rfl, -⟩ := hc5.1.form
        have HB5 := Lib.hid (HBR.out.trans (hb5.mono HBR.out.size))
        have HC5 := Lib.hid hc5
        unfold Ask.cells'
        dsimp only
        have hs5 := HB5.out.size
        obtain ⟨⟨x0, x1, x2, x3, x4, x5, x6⟩, -⟩ := seven ((HB5.out.block _ (lt_of_block HX0.out)).trans HX0.out)
        have hl5 := lt_of_block ((HB5.out.block _ (lt_of_block HX0.out)).trans HX0.out)
        clear hb5 hc5
        by_cases her : er = 0
        · subst her
          go_wp2_with fail
          refine (HSM.out ⟨bv, bn, bo, bb, bl, bx, bz⟩ _ _ _ ((HB0.out.trans (HB5.out.mono HB0.out.size)).alloc (Nat.le_trans HB0.out.size HB5.out.size) _) ((HC5.out.below ((Below.refl _ _).alloc (Nat.le_refl _) _)).slR hfew)).mono ?_
          rintro e w6 ⟨rfl, hb6⟩
          have HB6 := Lib.hid (((HB0.out.trans (HB5.out.mono HB0.out.size)).alloc (Nat.le_trans HB0.out.size HB5.out.size) _).trans (hb6.mono (Nat.le_trans (Nat.le_trans HB0.out.size HB5.out.size) (by simp))))
          clear hb6
          obtain ⟨sb, hsb⟩ : ∃ b, b = sameA ⟨bv, bn, bo, bb, bl, bx, bz⟩ ⟨((2 : Nat) : Int), nm, ot, rb, rl, nn, zs⟩ := ⟨_, rfl⟩
          rw [← hsb]
          have HSB := Lib.hid hsb
          clear hsb
          cases sb with
          | true =>
            go_wp2_with fail
            refine bodyPost_ret (v := .tuple #[.string LT, .int .i64 0]) (by simp [results, Tryz.results4, go_sem]) rfl ?_
            exact ⟨by rw [HW.out, writeT_ok HASK.out HSB.out.symm, HLT.out], HB6.out⟩
          | false =>
            go_wp2_with fail
            refine bodyPost_ret (v := .tuple #[.string ⟨#[]⟩, .int .i64 2]) (by simp [results, Tryz.results4, go_sem]) rfl ?_
            exact ⟨by rw [HW.out, writeT_no HASK.out HSB.out.symm]; rfl, HB6.out⟩
        · have HER := Lib.hid her
          have t1 : (er == 0) = false := by rw [beq_eq_false_iff_ne]; exact her
          clear her
          go_wp2_with fail
          refine bodyPost_ret (v := .tuple #[.string ⟨#[]⟩, .int .i64 er]) (by simp [results, Tryz.results4, go_sem]) rfl ?_
          exact ⟨by rw [HW.out, writeT_err HASK.out HER.out]; rfl, ((HB0.out.trans (HB5.out.mono HB0.out.size)).alloc (Nat.le_trans HB0.out.size HB5.out.size) _)⟩
  · have hvt := (HV.out.on (HB0.out.mono HBB.out)).2 3 (by decide)
    obtain ⟨⟨x0, x1, x2, x3, x4, x5, x6⟩, -⟩ := seven HX0.out
    obtain ⟨VT, hVT⟩ : ∃ x, x = txt (verbT 3) := ⟨_, rfl⟩
    rw [← hVT] at hvt
    have hB00 := Lib.hid (Below.refl V0.heap.size V0)
    obtain ⟨A1, hA1⟩ : ∃ x, x = txt ([32] ++ nm) := ⟨_, rfl⟩
    obtain ⟨S1, hS1⟩ : ∃ x, x = txt (verbT 3 ++ ([32] ++ nm)) := ⟨_, rfl⟩
    have d1 : ∀ W, (Op.stringOp .add ({ data := #[32] } : ByteArray) N).run Tryz.prog W = .ok (.string A1) W := fun W => by rw [HNM.out, hA1]; exact addL [32] nm W (by have := HL.out.1; simp <;> omega)
    have hv5 : (verbT 3).length ≤ 5 := by decide
    have hz1 : (verbT 3).length + ([32] ++ nm).length ≤ 1000000000000000000 := by have := HL.out.1; simp only [List.length_append, List.length_singleton]; omega
    have hz2 : (verbT 3 ++ ([32] ++ nm)).length ≤ 140737488351300 := by have := HL.out.1; simp only [List.length_append, List.length_singleton]; omega
    have d2 : ∀ W, (Op.stringOp .add VT A1).run Tryz.prog W = .ok (.string S1) W := fun W => by rw [hVT, hA1, hS1]; exact addL _ _ W hz1
    have hfin : LT = S1 := by rw [hS1, HLT.out, HLL.out]; exact congrArg txt (List.append_nil _)
    subst hfin
    clear hVT hA1 hS1
    go_enter Tryz.func4, Tryz.ntmps4
    go_upto_region 1 with fail
    have hV0 : w.alloc (.cells #[.int .i64 3, .string N, .string O, .int .i64 rb, .int .i64 rl, .int .i64 nn, .slice a n cap] 26) = V0 := HV0.out.symm
    rw [hV0]
    clear hV0
    go_upto_region 21 with fail
    go_wp2_with fail
    refine (HRD.out _).mono ?_
    rintro e w5 ⟨cv, rfl, hb5, hc5⟩
    obtain ⟨b5, c5, rfl, -⟩ := hc5.1.form
    have HB5 := Lib.hid (hB00.out.trans (hb5.mono hB00.out.size))
    have HC5 := Lib.hid hc5
    unfold Ask.cells'
    dsimp only
    have hs5 := HB5.out.size
    obtain ⟨⟨x0, x1, x2, x3, x4, x5, x6⟩, -⟩ := seven ((HB5.out.block _ (lt_of_block HX0.out)).trans HX0.out)
    have hl5 := lt_of_block ((HB5.out.block _ (lt_of_block HX0.out)).trans HX0.out)
    clear hb5 hc5
    by_cases her : er = 0
    · subst her
      go_wp2_with fail
      refine (HSM.out ⟨bv, bn, bo, bb, bl, bx, bz⟩ _ _ _ ((HB0.out.trans (HB5.out.mono HB0.out.size)).alloc (Nat.le_trans HB0.out.size HB5.out.size) _) ((HC5.out.below ((Below.refl _ _).alloc (Nat.le_refl _) _)).slR hfew)).mono ?_
      rintro e w6 ⟨rfl, hb6⟩
      have HB6 := Lib.hid (((HB0.out.trans (HB5.out.mono HB0.out.size)).alloc (Nat.le_trans HB0.out.size HB5.out.size) _).trans (hb6.mono (Nat.le_trans (Nat.le_trans HB0.out.size HB5.out.size) (by simp))))
      clear hb6
      obtain ⟨sb, hsb⟩ : ∃ b, b = sameA ⟨bv, bn, bo, bb, bl, bx, bz⟩ ⟨((3 : Nat) : Int), nm, ot, rb, rl, nn, zs⟩ := ⟨_, rfl⟩
      rw [← hsb]
      have HSB := Lib.hid hsb
      clear hsb
      cases sb with
      | true =>
        go_wp2_with fail
        refine bodyPost_ret (v := .tuple #[.string LT, .int .i64 0]) (by simp [results, Tryz.results4, go_sem]) rfl ?_
        exact ⟨by rw [HW.out, writeT_ok HASK.out HSB.out.symm, HLT.out], HB6.out⟩
      | false =>
        go_wp2_with fail
        refine bodyPost_ret (v := .tuple #[.string ⟨#[]⟩, .int .i64 2]) (by simp [results, Tryz.results4, go_sem]) rfl ?_
        exact ⟨by rw [HW.out, writeT_no HASK.out HSB.out.symm]; rfl, HB6.out⟩
    · have HER := Lib.hid her
      have t1 : (er == 0) = false := by rw [beq_eq_false_iff_ne]; exact her
      clear her
      go_wp2_with fail
      refine bodyPost_ret (v := .tuple #[.string ⟨#[]⟩, .int .i64 er]) (by simp [results, Tryz.results4, go_sem]) rfl ?_
      exact ⟨by rw [HW.out, writeT_err HASK.out HER.out]; rfl, ((HB0.out.trans (HB5.out.mono HB0.out.size)).alloc (Nat.le_trans HB0.out.size HB5.out.size) _)⟩
  · have hvt := (HV.out.on (HB0.out.mono HBB.out)).2 4 (by decide)
    obtain ⟨⟨x0, x1, x2, x3, x4, x5, x6⟩, -⟩ := seven HX0.out
    obtain ⟨VT, hVT⟩ : ∃ x, x = txt (verbT 4) := ⟨_, rfl⟩
    rw [← hVT] at hvt
    have hB00 := Lib.hid (Below.refl V0.heap.size V0)
    obtain ⟨A1, hA1⟩ : ∃ x, x = txt ([32] ++ nm) := ⟨_, rfl⟩
    obtain ⟨S1, hS1⟩ : ∃ x, x = txt (verbT 4 ++ ([32] ++ nm)) := ⟨_, rfl⟩
    have d1 : ∀ W, (Op.stringOp .add ({ data := #[32] } : ByteArray) N).run Tryz.prog W = .ok (.string A1) W := fun W => by rw [HNM.out, hA1]; exact addL [32] nm W (by have := HL.out.1; simp <;> omega)
    have hv5 : (verbT 4).length ≤ 5 := by decide
    have hz1 : (verbT 4).length + ([32] ++ nm).length ≤ 1000000000000000000 := by have := HL.out.1; simp only [List.length_append, List.length_singleton]; omega
    have hz2 : (verbT 4 ++ ([32] ++ nm)).length ≤ 140737488351300 := by have := HL.out.1; simp only [List.length_append, List.length_singleton]; omega
    have d2 : ∀ W, (Op.stringOp .add VT A1).run Tryz.prog W = .ok (.string S1) W := fun W => by rw [hVT, hA1, hS1]; exact addL _ _ W hz1
    obtain ⟨NT, hNT⟩ : ∃ x, x = txt (numL nn) := ⟨_, rfl⟩
    rw [← hNT] at HIT
    obtain ⟨A2, hA2⟩ : ∃ x, x = txt ([32] ++ numL nn) := ⟨_, rfl⟩
    have hnl : (numL nn).length ≤ 65 := numL_len HIN.out
    have hz3 : (verbT 4 ++ ([32] ++ nm)).length + ([32] ++ numL nn).length ≤ 1000000000000000000 := by simp only [List.length_append, List.length_singleton] at hz2 ⊢; omega
    have d3 : ∀ W, (Op.stringOp .add ({ data := #[32] } : ByteArray) NT).run Tryz.prog W = .ok (.string A2) W := fun W => by rw [hNT, hA2]; exact addL [32] (numL nn) W (by simp <;> omega)
    have d4 : ∀ W, (Op.stringOp .add S1 A2).run Tryz.prog W = .ok (.string LT) W := fun W => by rw [hS1, hA2, HLT.out, HLL.out]; exact addL _ _ W hz3
    clear hVT hA1 hS1 hA2 hNT hnl
    go_enter Tryz.func4, Tryz.ntmps4
    go_upto_region 1 with fail
    have hV0 : w.alloc (.cells #[.int .i64 4, .string N, .string O, .int .i64 rb, .int .i64 rl, .int .i64 nn, .slice a n cap] 26) = V0 := HV0.out.symm
    rw [hV0]
    clear hV0
    go_wp2_with fail
    refine (HIT.out _ HB0.out).mono ?_
    rintro e w4 ⟨rfl, hb4⟩
    have HB4 := Lib.hid hb4
    have hs4 := hb4.size
    clear hb4 x0 x1 x2 x3 x4 x5 x6
    go_upto_region 21 with fail
    go_wp2_with fail
    refine (HRD.out _).mono ?_
    rintro e w5 ⟨cv, rfl, hb5, hc5⟩
    obtain ⟨b5, c5, rfl, -⟩ := hc5.1.form
    have HB5 := Lib.hid (HB4.out.trans (hb5.mono HB4.out.size))
    have HC5 := Lib.hid hc5
    unfold Ask.cells'
    dsimp only
    have hs5 := HB5.out.size
    obtain ⟨⟨x0, x1, x2, x3, x4, x5, x6⟩, -⟩ := seven ((HB5.out.block _ (lt_of_block HX0.out)).trans HX0.out)
    have hl5 := lt_of_block ((HB5.out.block _ (lt_of_block HX0.out)).trans HX0.out)
    clear hb5 hc5
    by_cases her : er = 0
    · subst her
      go_wp2_with fail
      refine (HSM.out ⟨bv, bn, bo, bb, bl, bx, bz⟩ _ _ _ ((HB0.out.trans (HB5.out.mono HB0.out.size)).alloc (Nat.le_trans HB0.out.size HB5.out.size) _) ((HC5.out.below ((Below.refl _ _).alloc (Nat.le_refl _) _)).slR hfew)).mono ?_
      rintro e w6 ⟨rfl, hb6⟩
      have HB6 := Lib.hid (((HB0.out.trans (HB5.out.mono HB0.out.size)).alloc (Nat.le_trans HB0.out.size HB5.out.size) _).trans (hb6.mono (Nat.le_trans (Nat.le_trans HB0.out.size HB5.out.size) (by simp))))
      clear hb6
      obtain ⟨sb, hsb⟩ : ∃ b, b = sameA ⟨bv, bn, bo, bb, bl, bx, bz⟩ ⟨((4 : Nat) : Int), nm, ot, rb, rl, nn, zs⟩ := ⟨_, rfl⟩
      rw [← hsb]
      have HSB := Lib.hid hsb
      clear hsb
      cases sb with
      | true =>
        go_wp2_with fail
        refine bodyPost_ret (v := .tuple #[.string LT, .int .i64 0]) (by simp [results, Tryz.results4, go_sem]) rfl ?_
        exact ⟨by rw [HW.out, writeT_ok HASK.out HSB.out.symm, HLT.out], HB6.out⟩
      | false =>
        go_wp2_with fail
        refine bodyPost_ret (v := .tuple #[.string ⟨#[]⟩, .int .i64 2]) (by simp [results, Tryz.results4, go_sem]) rfl ?_
        exact ⟨by rw [HW.out, writeT_no HASK.out HSB.out.symm]; rfl, HB6.out⟩
    · have HER := Lib.hid her
      have t1 : (er == 0) = false := by rw [beq_eq_false_iff_ne]; exact her
      clear her
      go_wp2_with fail
      refine bodyPost_ret (v := .tuple #[.string ⟨#[]⟩, .int .i64 er]) (by simp [results, Tryz.results4, go_sem]) rfl ?_
      exact ⟨by rw [HW.out, writeT_err HASK.out HER.out]; rfl, ((HB0.out.trans (HB5.out.mono HB0.out.size)).alloc (Nat.le_trans HB0.out.size HB5.out.size) _)⟩
  · have hvt := (HV.out.on (HB0.out.mono HBB.out)).2 5 (by decide)
    obtain ⟨⟨x0, x1, x2, x3, x4, x5, x6⟩, -⟩ := seven HX0.out
    obtain ⟨VT, hVT⟩ : ∃ x, x = txt (verbT 5) := ⟨_, rfl⟩
    rw [← hVT] at hvt
    have hB00 := Lib.hid (Below.refl V0.heap.size V0)
    obtain ⟨A1, hA1⟩ : ∃ x, x = txt ([32] ++ nm) := ⟨_, rfl⟩
    obtain ⟨S1, hS1⟩ : ∃ x, x = txt (verbT 5 ++ ([32] ++ nm)) := ⟨_, rfl⟩
    have d1 : ∀ W, (Op.stringOp .add ({ data := #[32] } : ByteArray) N).run Tryz.prog W = .ok (.string A1) W := fun W => by rw [HNM.out, hA1]; exact addL [32] nm W (by have := HL.out.1; simp <;> omega)
    have hv5 : (verbT 5).length ≤ 5 := by decide
    have hz1 : (verbT 5).length + ([32] ++ nm).length ≤ 1000000000000000000 := by have := HL.out.1; simp only [List.length_append, List.length_singleton]; omega
    have hz2 : (verbT 5 ++ ([32] ++ nm)).length ≤ 140737488351300 := by have := HL.out.1; simp only [List.length_append, List.length_singleton]; omega
    have d2 : ∀ W, (Op.stringOp .add VT A1).run Tryz.prog W = .ok (.string S1) W := fun W => by rw [hVT, hA1, hS1]; exact addL _ _ W hz1
    have hfin : LT = S1 := by rw [hS1, HLT.out, HLL.out]; exact congrArg txt (List.append_nil _)
    subst hfin
    clear hVT hA1 hS1
    go_enter Tryz.func4, Tryz.ntmps4
    go_upto_region 1 with fail
    have hV0 : w.alloc (.cells #[.int .i64 5, .string N, .string O, .int .i64 rb, .int .i64 rl, .int .i64 nn, .slice a n cap] 26) = V0 := HV0.out.symm
    rw [hV0]
    clear hV0
    go_upto_region 21 with fail
    go_wp2_with fail
    refine (HRD.out _).mono ?_
    rintro e w5 ⟨cv, rfl, hb5, hc5⟩
    obtain ⟨b5, c5, rfl, -⟩ := hc5.1.form
    have HB5 := Lib.hid (hB00.out.trans (hb5.mono hB00.out.size))
    have HC5 := Lib.hid hc5
    unfold Ask.cells'
    dsimp only
    have hs5 := HB5.out.size
    obtain ⟨⟨x0, x1, x2, x3, x4, x5, x6⟩, -⟩ := seven ((HB5.out.block _ (lt_of_block HX0.out)).trans HX0.out)
    have hl5 := lt_of_block ((HB5.out.block _ (lt_of_block HX0.out)).trans HX0.out)
    clear hb5 hc5
    by_cases her : er = 0
    · subst her
      go_wp2_with fail
      refine (HSM.out ⟨bv, bn, bo, bb, bl, bx, bz⟩ _ _ _ ((HB0.out.trans (HB5.out.mono HB0.out.size)).alloc (Nat.le_trans HB0.out.size HB5.out.size) _) ((HC5.out.below ((Below.refl _ _).alloc (Nat.le_refl _) _)).slR hfew)).mono ?_
      rintro e w6 ⟨rfl, hb6⟩
      have HB6 := Lib.hid (((HB0.out.trans (HB5.out.mono HB0.out.size)).alloc (Nat.le_trans HB0.out.size HB5.out.size) _).trans (hb6.mono (Nat.le_trans (Nat.le_trans HB0.out.size HB5.out.size) (by simp))))
      clear hb6
      obtain ⟨sb, hsb⟩ : ∃ b, b = sameA ⟨bv, bn, bo, bb, bl, bx, bz⟩ ⟨((5 : Nat) : Int), nm, ot, rb, rl, nn, zs⟩ := ⟨_, rfl⟩
      rw [← hsb]
      have HSB := Lib.hid hsb
      clear hsb
      cases sb with
      | true =>
        go_wp2_with fail
        refine bodyPost_ret (v := .tuple #[.string LT, .int .i64 0]) (by simp [results, Tryz.results4, go_sem]) rfl ?_
        exact ⟨by rw [HW.out, writeT_ok HASK.out HSB.out.symm, HLT.out], HB6.out⟩
      | false =>
        go_wp2_with fail
        refine bodyPost_ret (v := .tuple #[.string ⟨#[]⟩, .int .i64 2]) (by simp [results, Tryz.results4, go_sem]) rfl ?_
        exact ⟨by rw [HW.out, writeT_no HASK.out HSB.out.symm]; rfl, HB6.out⟩
    · have HER := Lib.hid her
      have t1 : (er == 0) = false := by rw [beq_eq_false_iff_ne]; exact her
      clear her
      go_wp2_with fail
      refine bodyPost_ret (v := .tuple #[.string ⟨#[]⟩, .int .i64 er]) (by simp [results, Tryz.results4, go_sem]) rfl ?_
      exact ⟨by rw [HW.out, writeT_err HASK.out HER.out]; rfl, ((HB0.out.trans (HB5.out.mono HB0.out.size)).alloc (Nat.le_trans HB0.out.size HB5.out.size) _)⟩
  · have hvt := (HV.out.on (HB0.out.mono HBB.out)).2 6 (by decide)
    obtain ⟨⟨x0, x1, x2, x3, x4, x5, x6⟩, -⟩ := seven HX0.out
    obtain ⟨VT, hVT⟩ : ∃ x, x = txt (verbT 6) := ⟨_, rfl⟩
    rw [← hVT] at hvt
    have hB00 := Lib.hid (Below.refl V0.heap.size V0)
    obtain ⟨A1, hA1⟩ : ∃ x, x = txt ([32] ++ nm) := ⟨_, rfl⟩
    obtain ⟨S1, hS1⟩ : ∃ x, x = txt (verbT 6 ++ ([32] ++ nm)) := ⟨_, rfl⟩
    have d1 : ∀ W, (Op.stringOp .add ({ data := #[32] } : ByteArray) N).run Tryz.prog W = .ok (.string A1) W := fun W => by rw [HNM.out, hA1]; exact addL [32] nm W (by have := HL.out.1; simp <;> omega)
    have hv5 : (verbT 6).length ≤ 5 := by decide
    have hz1 : (verbT 6).length + ([32] ++ nm).length ≤ 1000000000000000000 := by have := HL.out.1; simp only [List.length_append, List.length_singleton]; omega
    have hz2 : (verbT 6 ++ ([32] ++ nm)).length ≤ 140737488351300 := by have := HL.out.1; simp only [List.length_append, List.length_singleton]; omega
    have d2 : ∀ W, (Op.stringOp .add VT A1).run Tryz.prog W = .ok (.string S1) W := fun W => by rw [hVT, hA1, hS1]; exact addL _ _ W hz1
    have hfin : LT = S1 := by rw [hS1, HLT.out, HLL.out]; exact congrArg txt (List.append_nil _)
    subst hfin
    clear hVT hA1 hS1
    go_enter Tryz.func4, Tryz.ntmps4
    go_upto_region 1 with fail
    have hV0 : w.alloc (.cells #[.int .i64 6, .string N, .string O, .int .i64 rb, .int .i64 rl, .int .i64 nn, .slice a n cap] 26) = V0 := HV0.out.symm
    rw [hV0]
    clear hV0
    go_upto_region 21 with fail
    go_wp2_with fail
    refine (HRD.out _).mono ?_
    rintro e w5 ⟨cv, rfl, hb5, hc5⟩
    obtain ⟨b5, c5, rfl, -⟩ := hc5.1.form
    have HB5 := Lib.hid (hB00.out.trans (hb5.mono hB00.out.size))
    have HC5 := Lib.hid hc5
    unfold Ask.cells'
    dsimp only
    have hs5 := HB5.out.size
    obtain ⟨⟨x0, x1, x2, x3, x4, x5, x6⟩, -⟩ := seven ((HB5.out.block _ (lt_of_block HX0.out)).trans HX0.out)
    have hl5 := lt_of_block ((HB5.out.block _ (lt_of_block HX0.out)).trans HX0.out)
    clear hb5 hc5
    by_cases her : er = 0
    · subst her
      go_wp2_with fail
      refine (HSM.out ⟨bv, bn, bo, bb, bl, bx, bz⟩ _ _ _ ((HB0.out.trans (HB5.out.mono HB0.out.size)).alloc (Nat.le_trans HB0.out.size HB5.out.size) _) ((HC5.out.below ((Below.refl _ _).alloc (Nat.le_refl _) _)).slR hfew)).mono ?_
      rintro e w6 ⟨rfl, hb6⟩
      have HB6 := Lib.hid (((HB0.out.trans (HB5.out.mono HB0.out.size)).alloc (Nat.le_trans HB0.out.size HB5.out.size) _).trans (hb6.mono (Nat.le_trans (Nat.le_trans HB0.out.size HB5.out.size) (by simp))))
      clear hb6
      obtain ⟨sb, hsb⟩ : ∃ b, b = sameA ⟨bv, bn, bo, bb, bl, bx, bz⟩ ⟨((6 : Nat) : Int), nm, ot, rb, rl, nn, zs⟩ := ⟨_, rfl⟩
      rw [← hsb]
      have HSB := Lib.hid hsb
      clear hsb
      cases sb with
      | true =>
        go_wp2_with fail
        refine bodyPost_ret (v := .tuple #[.string LT, .int .i64 0]) (by simp [results, Tryz.results4, go_sem]) rfl ?_
        exact ⟨by rw [HW.out, writeT_ok HASK.out HSB.out.symm, HLT.out], HB6.out⟩
      | false =>
        go_wp2_with fail
        refine bodyPost_ret (v := .tuple #[.string ⟨#[]⟩, .int .i64 2]) (by simp [results, Tryz.results4, go_sem]) rfl ?_
        exact ⟨by rw [HW.out, writeT_no HASK.out HSB.out.symm]; rfl, HB6.out⟩
    · have HER := Lib.hid her
      have t1 : (er == 0) = false := by rw [beq_eq_false_iff_ne]; exact her
      clear her
      go_wp2_with fail
      refine bodyPost_ret (v := .tuple #[.string ⟨#[]⟩, .int .i64 er]) (by simp [results, Tryz.results4, go_sem]) rfl ?_
      exact ⟨by rw [HW.out, writeT_err HASK.out HER.out]; rfl, ((HB0.out.trans (HB5.out.mono HB0.out.size)).alloc (Nat.le_trans HB0.out.size HB5.out.size) _)⟩
  · have hvt := (HV.out.on (HB0.out.mono HBB.out)).2 7 (by decide)
    obtain ⟨⟨x0, x1, x2, x3, x4, x5, x6⟩, -⟩ := seven HX0.out
    obtain ⟨VT, hVT⟩ : ∃ x, x = txt (verbT 7) := ⟨_, rfl⟩
    rw [← hVT] at hvt
    have hB00 := Lib.hid (Below.refl V0.heap.size V0)
    obtain ⟨A1, hA1⟩ : ∃ x, x = txt ([32] ++ nm) := ⟨_, rfl⟩
    obtain ⟨S1, hS1⟩ : ∃ x, x = txt (verbT 7 ++ ([32] ++ nm)) := ⟨_, rfl⟩
    have d1 : ∀ W, (Op.stringOp .add ({ data := #[32] } : ByteArray) N).run Tryz.prog W = .ok (.string A1) W := fun W => by rw [HNM.out, hA1]; exact addL [32] nm W (by have := HL.out.1; simp <;> omega)
    have hv5 : (verbT 7).length ≤ 5 := by decide
    have hz1 : (verbT 7).length + ([32] ++ nm).length ≤ 1000000000000000000 := by have := HL.out.1; simp only [List.length_append, List.length_singleton]; omega
    have hz2 : (verbT 7 ++ ([32] ++ nm)).length ≤ 140737488351300 := by have := HL.out.1; simp only [List.length_append, List.length_singleton]; omega
    have d2 : ∀ W, (Op.stringOp .add VT A1).run Tryz.prog W = .ok (.string S1) W := fun W => by rw [hVT, hA1, hS1]; exact addL _ _ W hz1
    have hfin : LT = S1 := by rw [hS1, HLT.out, HLL.out]; exact congrArg txt (List.append_nil _)
    subst hfin
    clear hVT hA1 hS1
    go_enter Tryz.func4, Tryz.ntmps4
    go_upto_region 1 with fail
    have hV0 : w.alloc (.cells #[.int .i64 7, .string N, .string O, .int .i64 rb, .int .i64 rl, .int .i64 nn, .slice a n cap] 26) = V0 := HV0.out.symm
    rw [hV0]
    clear hV0
    go_upto_region 21 with fail
    go_wp2_with fail
    refine (HRD.out _).mono ?_
    rintro e w5 ⟨cv, rfl, hb5, hc5⟩
    obtain ⟨b5, c5, rfl, -⟩ := hc5.1.form
    have HB5 := Lib.hid (hB00.out.trans (hb5.mono hB00.out.size))
    have HC5 := Lib.hid hc5
    unfold Ask.cells'
    dsimp only
    have hs5 := HB5.out.size
    obtain ⟨⟨x0, x1, x2, x3, x4, x5, x6⟩, -⟩ := seven ((HB5.out.block _ (lt_of_block HX0.out)).trans HX0.out)
    have hl5 := lt_of_block ((HB5.out.block _ (lt_of_block HX0.out)).trans HX0.out)
    clear hb5 hc5
    by_cases her : er = 0
    · subst her
      go_wp2_with fail
      refine (HSM.out ⟨bv, bn, bo, bb, bl, bx, bz⟩ _ _ _ ((HB0.out.trans (HB5.out.mono HB0.out.size)).alloc (Nat.le_trans HB0.out.size HB5.out.size) _) ((HC5.out.below ((Below.refl _ _).alloc (Nat.le_refl _) _)).slR hfew)).mono ?_
      rintro e w6 ⟨rfl, hb6⟩
      have HB6 := Lib.hid (((HB0.out.trans (HB5.out.mono HB0.out.size)).alloc (Nat.le_trans HB0.out.size HB5.out.size) _).trans (hb6.mono (Nat.le_trans (Nat.le_trans HB0.out.size HB5.out.size) (by simp))))
      clear hb6
      obtain ⟨sb, hsb⟩ : ∃ b, b = sameA ⟨bv, bn, bo, bb, bl, bx, bz⟩ ⟨((7 : Nat) : Int), nm, ot, rb, rl, nn, zs⟩ := ⟨_, rfl⟩
      rw [← hsb]
      have HSB := Lib.hid hsb
      clear hsb
      cases sb with
      | true =>
        go_wp2_with fail
        refine bodyPost_ret (v := .tuple #[.string LT, .int .i64 0]) (by simp [results, Tryz.results4, go_sem]) rfl ?_
        exact ⟨by rw [HW.out, writeT_ok HASK.out HSB.out.symm, HLT.out], HB6.out⟩
      | false =>
        go_wp2_with fail
        refine bodyPost_ret (v := .tuple #[.string ⟨#[]⟩, .int .i64 2]) (by simp [results, Tryz.results4, go_sem]) rfl ?_
        exact ⟨by rw [HW.out, writeT_no HASK.out HSB.out.symm]; rfl, HB6.out⟩
    · have HER := Lib.hid her
      have t1 : (er == 0) = false := by rw [beq_eq_false_iff_ne]; exact her
      clear her
      go_wp2_with fail
      refine bodyPost_ret (v := .tuple #[.string ⟨#[]⟩, .int .i64 er]) (by simp [results, Tryz.results4, go_sem]) rfl ?_
      exact ⟨by rw [HW.out, writeT_err HASK.out HER.out]; rfl, ((HB0.out.trans (HB5.out.mono HB0.out.size)).alloc (Nat.le_trans HB0.out.size HB5.out.size) _)⟩
  · have hvt := (HV.out.on (HB0.out.mono HBB.out)).2 8 (by decide)
    obtain ⟨⟨x0, x1, x2, x3, x4, x5, x6⟩, -⟩ := seven HX0.out
    obtain ⟨VT, hVT⟩ : ∃ x, x = txt (verbT 8) := ⟨_, rfl⟩
    rw [← hVT] at hvt
    have hB00 := Lib.hid (Below.refl V0.heap.size V0)
    obtain ⟨A1, hA1⟩ : ∃ x, x = txt ([32] ++ nm) := ⟨_, rfl⟩
    obtain ⟨S1, hS1⟩ : ∃ x, x = txt (verbT 8 ++ ([32] ++ nm)) := ⟨_, rfl⟩
    have d1 : ∀ W, (Op.stringOp .add ({ data := #[32] } : ByteArray) N).run Tryz.prog W = .ok (.string A1) W := fun W => by rw [HNM.out, hA1]; exact addL [32] nm W (by have := HL.out.1; simp <;> omega)
    have hv5 : (verbT 8).length ≤ 5 := by decide
    have hz1 : (verbT 8).length + ([32] ++ nm).length ≤ 1000000000000000000 := by have := HL.out.1; simp only [List.length_append, List.length_singleton]; omega
    have hz2 : (verbT 8 ++ ([32] ++ nm)).length ≤ 140737488351300 := by have := HL.out.1; simp only [List.length_append, List.length_singleton]; omega
    have d2 : ∀ W, (Op.stringOp .add VT A1).run Tryz.prog W = .ok (.string S1) W := fun W => by rw [hVT, hA1, hS1]; exact addL _ _ W hz1
    obtain ⟨A2, hA2⟩ : ∃ x, x = txt ([32] ++ ot) := ⟨_, rfl⟩
    have hz3 : (verbT 8 ++ ([32] ++ nm)).length + ([32] ++ ot).length ≤ 1000000000000000000 := by have := HL.out.2; simp only [List.length_append, List.length_singleton] at hz2 ⊢; omega
    have d3 : ∀ W, (Op.stringOp .add ({ data := #[32] } : ByteArray) O).run Tryz.prog W = .ok (.string A2) W := fun W => by rw [HOT.out, hA2]; exact addL [32] ot W (by have := HL.out.2; simp <;> omega)
    have d4 : ∀ W, (Op.stringOp .add S1 A2).run Tryz.prog W = .ok (.string LT) W := fun W => by rw [hS1, hA2, HLT.out, HLL.out]; exact addL _ _ W hz3
    clear hVT hA1 hS1 hA2
    go_enter Tryz.func4, Tryz.ntmps4
    go_upto_region 1 with fail
    have hV0 : w.alloc (.cells #[.int .i64 8, .string N, .string O, .int .i64 rb, .int .i64 rl, .int .i64 nn, .slice a n cap] 26) = V0 := HV0.out.symm
    rw [hV0]
    clear hV0
    go_upto_region 21 with fail
    go_wp2_with fail
    refine (HRD.out _).mono ?_
    rintro e w5 ⟨cv, rfl, hb5, hc5⟩
    obtain ⟨b5, c5, rfl, -⟩ := hc5.1.form
    have HB5 := Lib.hid (hB00.out.trans (hb5.mono hB00.out.size))
    have HC5 := Lib.hid hc5
    unfold Ask.cells'
    dsimp only
    have hs5 := HB5.out.size
    obtain ⟨⟨x0, x1, x2, x3, x4, x5, x6⟩, -⟩ := seven ((HB5.out.block _ (lt_of_block HX0.out)).trans HX0.out)
    have hl5 := lt_of_block ((HB5.out.block _ (lt_of_block HX0.out)).trans HX0.out)
    clear hb5 hc5
    by_cases her : er = 0
    · subst her
      go_wp2_with fail
      refine (HSM.out ⟨bv, bn, bo, bb, bl, bx, bz⟩ _ _ _ ((HB0.out.trans (HB5.out.mono HB0.out.size)).alloc (Nat.le_trans HB0.out.size HB5.out.size) _) ((HC5.out.below ((Below.refl _ _).alloc (Nat.le_refl _) _)).slR hfew)).mono ?_
      rintro e w6 ⟨rfl, hb6⟩
      have HB6 := Lib.hid (((HB0.out.trans (HB5.out.mono HB0.out.size)).alloc (Nat.le_trans HB0.out.size HB5.out.size) _).trans (hb6.mono (Nat.le_trans (Nat.le_trans HB0.out.size HB5.out.size) (by simp))))
      clear hb6
      obtain ⟨sb, hsb⟩ : ∃ b, b = sameA ⟨bv, bn, bo, bb, bl, bx, bz⟩ ⟨((8 : Nat) : Int), nm, ot, rb, rl, nn, zs⟩ := ⟨_, rfl⟩
      rw [← hsb]
      have HSB := Lib.hid hsb
      clear hsb
      cases sb with
      | true =>
        go_wp2_with fail
        refine bodyPost_ret (v := .tuple #[.string LT, .int .i64 0]) (by simp [results, Tryz.results4, go_sem]) rfl ?_
        exact ⟨by rw [HW.out, writeT_ok HASK.out HSB.out.symm, HLT.out], HB6.out⟩
      | false =>
        go_wp2_with fail
        refine bodyPost_ret (v := .tuple #[.string ⟨#[]⟩, .int .i64 2]) (by simp [results, Tryz.results4, go_sem]) rfl ?_
        exact ⟨by rw [HW.out, writeT_no HASK.out HSB.out.symm]; rfl, HB6.out⟩
    · have HER := Lib.hid her
      have t1 : (er == 0) = false := by rw [beq_eq_false_iff_ne]; exact her
      clear her
      go_wp2_with fail
      refine bodyPost_ret (v := .tuple #[.string ⟨#[]⟩, .int .i64 er]) (by simp [results, Tryz.results4, go_sem]) rfl ?_
      exact ⟨by rw [HW.out, writeT_err HASK.out HER.out]; rfl, ((HB0.out.trans (HB5.out.mono HB0.out.size)).alloc (Nat.le_trans HB0.out.size HB5.out.size) _)⟩
  · have hvt := (HV.out.on (HB0.out.mono HBB.out)).2 9 (by decide)
    obtain ⟨⟨x0, x1, x2, x3, x4, x5, x6⟩, -⟩ := seven HX0.out
    obtain ⟨VT, hVT⟩ : ∃ x, x = txt (verbT 9) := ⟨_, rfl⟩
    rw [← hVT] at hvt
    have hB00 := Lib.hid (Below.refl V0.heap.size V0)
    obtain ⟨A1, hA1⟩ : ∃ x, x = txt ([32] ++ nm) := ⟨_, rfl⟩
    obtain ⟨S1, hS1⟩ : ∃ x, x = txt (verbT 9 ++ ([32] ++ nm)) := ⟨_, rfl⟩
    have d1 : ∀ W, (Op.stringOp .add ({ data := #[32] } : ByteArray) N).run Tryz.prog W = .ok (.string A1) W := fun W => by rw [HNM.out, hA1]; exact addL [32] nm W (by have := HL.out.1; simp <;> omega)
    have hv5 : (verbT 9).length ≤ 5 := by decide
    have hz1 : (verbT 9).length + ([32] ++ nm).length ≤ 1000000000000000000 := by have := HL.out.1; simp only [List.length_append, List.length_singleton]; omega
    have hz2 : (verbT 9 ++ ([32] ++ nm)).length ≤ 140737488351300 := by have := HL.out.1; simp only [List.length_append, List.length_singleton]; omega
    have d2 : ∀ W, (Op.stringOp .add VT A1).run Tryz.prog W = .ok (.string S1) W := fun W => by rw [hVT, hA1, hS1]; exact addL _ _ W hz1
    obtain ⟨NT, hNT⟩ : ∃ x, x = txt (numL nn) := ⟨_, rfl⟩
    rw [← hNT] at HIT
    obtain ⟨A2, hA2⟩ : ∃ x, x = txt ([32] ++ numL nn) := ⟨_, rfl⟩
    have hnl : (numL nn).length ≤ 65 := numL_len HIN.out
    have hz3 : (verbT 9 ++ ([32] ++ nm)).length + ([32] ++ numL nn).length ≤ 1000000000000000000 := by simp only [List.length_append, List.length_singleton] at hz2 ⊢; omega
    have d3 : ∀ W, (Op.stringOp .add ({ data := #[32] } : ByteArray) NT).run Tryz.prog W = .ok (.string A2) W := fun W => by rw [hNT, hA2]; exact addL [32] (numL nn) W (by simp <;> omega)
    have d4 : ∀ W, (Op.stringOp .add S1 A2).run Tryz.prog W = .ok (.string LT) W := fun W => by rw [hS1, hA2, HLT.out, HLL.out]; exact addL _ _ W hz3
    clear hVT hA1 hS1 hA2 hNT hnl
    go_enter Tryz.func4, Tryz.ntmps4
    go_upto_region 1 with fail
    have hV0 : w.alloc (.cells #[.int .i64 9, .string N, .string O, .int .i64 rb, .int .i64 rl, .int .i64 nn, .slice a n cap] 26) = V0 := HV0.out.symm
    rw [hV0]
    clear hV0
    go_wp2_with fail
    refine (HIT.out _ HB0.out).mono ?_
    rintro e w4 ⟨rfl, hb4⟩
    have HB4 := Lib.hid hb4
    have hs4 := hb4.size
    clear hb4 x0 x1 x2 x3 x4 x5 x6
    go_upto_region 21 with fail
    go_wp2_with fail
    refine (HRD.out _).mono ?_
    rintro e w5 ⟨cv, rfl, hb5, hc5⟩
    obtain ⟨b5, c5, rfl, -⟩ := hc5.1.form
    have HB5 := Lib.hid (HB4.out.trans (hb5.mono HB4.out.size))
    have HC5 := Lib.hid hc5
    unfold Ask.cells'
    dsimp only
    have hs5 := HB5.out.size
    obtain ⟨⟨x0, x1, x2, x3, x4, x5, x6⟩, -⟩ := seven ((HB5.out.block _ (lt_of_block HX0.out)).trans HX0.out)
    have hl5 := lt_of_block ((HB5.out.block _ (lt_of_block HX0.out)).trans HX0.out)
    clear hb5 hc5
    by_cases her : er = 0
    · subst her
      go_wp2_with fail
      refine (HSM.out ⟨bv, bn, bo, bb, bl, bx, bz⟩ _ _ _ ((HB0.out.trans (HB5.out.mono HB0.out.size)).alloc (Nat.le_trans HB0.out.size HB5.out.size) _) ((HC5.out.below ((Below.refl _ _).alloc (Nat.le_refl _) _)).slR hfew)).mono ?_
      rintro e w6 ⟨rfl, hb6⟩
      have HB6 := Lib.hid (((HB0.out.trans (HB5.out.mono HB0.out.size)).alloc (Nat.le_trans HB0.out.size HB5.out.size) _).trans (hb6.mono (Nat.le_trans (Nat.le_trans HB0.out.size HB5.out.size) (by simp))))
      clear hb6
      obtain ⟨sb, hsb⟩ : ∃ b, b = sameA ⟨bv, bn, bo, bb, bl, bx, bz⟩ ⟨((9 : Nat) : Int), nm, ot, rb, rl, nn, zs⟩ := ⟨_, rfl⟩
      rw [← hsb]
      have HSB := Lib.hid hsb
      clear hsb
      cases sb with
      | true =>
        go_wp2_with fail
        refine bodyPost_ret (v := .tuple #[.string LT, .int .i64 0]) (by simp [results, Tryz.results4, go_sem]) rfl ?_
        exact ⟨by rw [HW.out, writeT_ok HASK.out HSB.out.symm, HLT.out], HB6.out⟩
      | false =>
        go_wp2_with fail
        refine bodyPost_ret (v := .tuple #[.string ⟨#[]⟩, .int .i64 2]) (by simp [results, Tryz.results4, go_sem]) rfl ?_
        exact ⟨by rw [HW.out, writeT_no HASK.out HSB.out.symm]; rfl, HB6.out⟩
    · have HER := Lib.hid her
      have t1 : (er == 0) = false := by rw [beq_eq_false_iff_ne]; exact her
      clear her
      go_wp2_with fail
      refine bodyPost_ret (v := .tuple #[.string ⟨#[]⟩, .int .i64 er]) (by simp [results, Tryz.results4, go_sem]) rfl ?_
      exact ⟨by rw [HW.out, writeT_err HASK.out HER.out]; rfl, ((HB0.out.trans (HB5.out.mono HB0.out.size)).alloc (Nat.le_trans HB0.out.size HB5.out.size) _)⟩
  · have hvt := (HV.out.on (HB0.out.mono HBB.out)).2 10 (by decide)
    obtain ⟨⟨x0, x1, x2, x3, x4, x5, x6⟩, -⟩ := seven HX0.out
    obtain ⟨VT, hVT⟩ : ∃ x, x = txt (verbT 10) := ⟨_, rfl⟩
    rw [← hVT] at hvt
    have hB00 := Lib.hid (Below.refl V0.heap.size V0)
    have hfin : LT = VT := by rw [hVT, HLT.out, HLL.out]; exact congrArg txt (List.append_nil _)
    subst hfin
    clear hVT
    go_enter Tryz.func4, Tryz.ntmps4
    go_upto_region 1 with fail
    have hV0 : w.alloc (.cells #[.int .i64 10, .string N, .string O, .int .i64 rb, .int .i64 rl, .int .i64 nn, .slice a n cap] 26) = V0 := HV0.out.symm
    rw [hV0]
    clear hV0
    go_upto_region 21 with fail
    go_wp2_with fail
    refine (HRD.out _).mono ?_
    rintro e w5 ⟨cv, rfl, hb5, hc5⟩
    obtain ⟨b5, c5, rfl, -⟩ := hc5.1.form
    have HB5 := Lib.hid (hB00.out.trans (hb5.mono hB00.out.size))
    have HC5 := Lib.hid hc5
    unfold Ask.cells'
    dsimp only
    have hs5 := HB5.out.size
    obtain ⟨⟨x0, x1, x2, x3, x4, x5, x6⟩, -⟩ := seven ((HB5.out.block _ (lt_of_block HX0.out)).trans HX0.out)
    have hl5 := lt_of_block ((HB5.out.block _ (lt_of_block HX0.out)).trans HX0.out)
    clear hb5 hc5
    by_cases her : er = 0
    · subst her
      go_wp2_with fail
      refine (HSM.out ⟨bv, bn, bo, bb, bl, bx, bz⟩ _ _ _ ((HB0.out.trans (HB5.out.mono HB0.out.size)).alloc (Nat.le_trans HB0.out.size HB5.out.size) _) ((HC5.out.below ((Below.refl _ _).alloc (Nat.le_refl _) _)).slR hfew)).mono ?_
      rintro e w6 ⟨rfl, hb6⟩
      have HB6 := Lib.hid (((HB0.out.trans (HB5.out.mono HB0.out.size)).alloc (Nat.le_trans HB0.out.size HB5.out.size) _).trans (hb6.mono (Nat.le_trans (Nat.le_trans HB0.out.size HB5.out.size) (by simp))))
      clear hb6
      obtain ⟨sb, hsb⟩ : ∃ b, b = sameA ⟨bv, bn, bo, bb, bl, bx, bz⟩ ⟨((10 : Nat) : Int), nm, ot, rb, rl, nn, zs⟩ := ⟨_, rfl⟩
      rw [← hsb]
      have HSB := Lib.hid hsb
      clear hsb
      cases sb with
      | true =>
        go_wp2_with fail
        refine bodyPost_ret (v := .tuple #[.string LT, .int .i64 0]) (by simp [results, Tryz.results4, go_sem]) rfl ?_
        exact ⟨by rw [HW.out, writeT_ok HASK.out HSB.out.symm, HLT.out], HB6.out⟩
      | false =>
        go_wp2_with fail
        refine bodyPost_ret (v := .tuple #[.string ⟨#[]⟩, .int .i64 2]) (by simp [results, Tryz.results4, go_sem]) rfl ?_
        exact ⟨by rw [HW.out, writeT_no HASK.out HSB.out.symm]; rfl, HB6.out⟩
    · have HER := Lib.hid her
      have t1 : (er == 0) = false := by rw [beq_eq_false_iff_ne]; exact her
      clear her
      go_wp2_with fail
      refine bodyPost_ret (v := .tuple #[.string ⟨#[]⟩, .int .i64 er]) (by simp [results, Tryz.results4, go_sem]) rfl ?_
      exact ⟨by rw [HW.out, writeT_err HASK.out HER.out]; rfl, ((HB0.out.trans (HB5.out.mono HB0.out.size)).alloc (Nat.le_trans HB0.out.size HB5.out.size) _)⟩
end Go.Proofs.YtdmamecfmfhlmaaGreatDoor
