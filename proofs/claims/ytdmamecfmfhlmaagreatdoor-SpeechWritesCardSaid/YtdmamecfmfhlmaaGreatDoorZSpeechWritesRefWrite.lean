/-
  The document's WriteRequest.
-/
import Derived.Test.YtdmamecfmfhlmaaGreatDoorZSpeechWritesWrite
import Derived.Test.YtdmamecfmfhlmaaGreatDoorZSpeechWritesRefAskAny
namespace Go.Proofs.YtdmamecfmfhlmaaGreatDoor
set_option maxRecDepth 100000
open Go.RowKit

/-- What the document lays for a letter of a form. -/
def docT (q : Ask) (i : Nat) (f : UInt8) : List UInt8 := if f = 114 then 32 :: ruleL q.b q.l else if f = 100 then 32 :: numL q.n else if f = 99 then cellsL q.cells else if i = 0 then 32 :: q.name else 32 :: q.other
def docW (q : Ask) (i : Nat) : List UInt8 → List UInt8
  | [] => []
  | f :: fs => docT q i f ++ docW q (i + 1) fs
theorem docW_line (q : Ask) {k : Nat} (h1 : 1 ≤ k) (h2 : k ≤ 10) : verbT k ++ docW q 0 (formT k) = lineL k q := by
  obtain rfl | rfl | rfl | rfl | rfl | rfl | rfl | rfl | rfl | rfl : k = 1 ∨ k = 2 ∨ k = 3 ∨ k = 4 ∨ k = 5 ∨ k = 6 ∨ k = 7 ∨ k = 8 ∨ k = 9 ∨ k = 10 := by omega
  all_goals simp [docW, docT, formT, lineL, headL, tailL]
theorem docT_len {q : Ask} (hz : ∀ z ∈ q.cells, GoodCell z) (hn : I64 q.n) (hl : q.name.length ≤ 140737488351232 ∧ q.other.length ≤ 140737488351232) (hc : q.cells.length * 16 ≤ 140737488351232) (i : Nat) (f : UInt8) : (docT q i f).length ≤ 1200000000000000 := by
  have h1 := ruleL_len q.b q.l
  have h2 := numL_len hn
  have h3 := cellsL_len hz
  unfold docT
  split
  · simp only [List.length_cons]; omega
  · split
    · simp only [List.length_cons]; omega
    · split
      · omega
      · split <;> simp only [List.length_cons] <;> omega
theorem docW_len {q : Ask} (h : ∀ i f, (docT q i f).length ≤ 1200000000000000) : ∀ (F : List UInt8) (i : Nat), (docW q i F).length ≤ 1200000000000000 * F.length
  | [], i => by simp [docW]
  | f :: fs, i => by
    have h1 := h i f
    have h2 := docW_len h fs (i + 1)
    rw [docW, List.length_append, List.length_cons]
    omega
set_option maxHeartbeats 40000000 in
theorem refWrite_any (B : Nat) (q : Ask) (a : Option Addr) (cap : Nat) (w : World) (hs : Sl w 2 16 a q.cells.length cap (q.cells.flatMap encCell)) (hz : ∀ z ∈ q.cells, GoodCell z) (hi : I64 q.verb ∧ I64 q.n) (hl : q.name.length ≤ 140737488351232 ∧ q.other.length ≤ 140737488351232) (hVN : StrsAt B w 1 namesT) (hFM : StrsAt B w 2 formsT) (hB : B ≤ w.heap.size) :
    Calls Tryz.prog 6 #[.agg (q.cells' (.slice a q.cells.length cap)).toArray] w fun e w' => e = .returned (.tuple #[.string (txt (writeF q).1), .int .i64 (writeF q).2]) ∧ Below w.heap.size w w' := by
  obtain ⟨R, hR⟩ : ∃ R, R = writeF q := ⟨_, rfl⟩
  rw [← hR]
  have HR := Lib.hid hR
  have HSM := Lib.hid (fun (back : Ask) (b : Option Addr) (cb : Nat) (W : World) (hW : Below w.heap.size w W) (h1 : Sl W 2 16 b back.cells.length cb (back.cells.flatMap encCell)) => sameReqG_any back q b a cb cap W h1 (hs.below (by decide) hW))
  have HAT := Lib.hid (fun (k : Nat) => writeF_at (q := q) (k := k))
  have HNO := Lib.hid (writeF_no (q := q))
  have HL1 := Lib.hid (fun W => refRuleT_any q.b q.l W)
  have HIT := Lib.hid (fun W => decimalW_any q.n W hi.2)
  have HDL := Lib.hid (fun (i : Nat) (f : UInt8) => docT_len hz hi.2 hl hs.wide i f)
  have HLINE := Lib.hid (fun (k : Nat) => docW_line q (k := k))
  obtain ⟨v, nm, ot, rb, rl, nn, zs⟩ := q
  show Calls Tryz.prog 6 #[.agg #[.int .i64 v, .string (txt nm), .string (txt ot), .int .i64 rb, .int .i64 rl, .int .i64 nn, .slice a zs.length cap]] w _
  dsimp only at hs hz hi hl HAT HNO HL1 HIT
  have hwide := hs.wide
  obtain ⟨n, hn⟩ : ∃ n, n = zs.length := ⟨_, rfl⟩
  obtain ⟨N, hN⟩ : ∃ x, x = txt nm := ⟨_, rfl⟩
  obtain ⟨O, hO⟩ : ∃ x, x = txt ot := ⟨_, rfl⟩
  have HSQ := Lib.hid hs
  have HZ := Lib.hid hz
  have HVN := Lib.hid hVN
  have HFM := Lib.hid hFM
  have HBB := Lib.hid hB
  have HL := Lib.hid hl
  have HIN := Lib.hid hi.2
  rw [← hn] at hwide
  unfold Ask.cells' at HSM
  dsimp only at HSM
  rw [← hN, ← hO, ← hn] at HSM
  have HB0 := Lib.hid (show Below w.heap.size w (w.alloc (.cells #[.int .i64 v, .string N, .string O, .int .i64 rb, .int .i64 rl, .int .i64 nn, .slice a n cap] 26)) from (Below.refl _ _).alloc (Nat.le_refl _) _)
  have HX0 := Lib.hid (show (w.alloc (.cells #[.int .i64 v, .string N, .string O, .int .i64 rb, .int .i64 rl, .int .i64 nn, .slice a n cap] 26)).heap[w.heap.size]? = some (.cells #[.int .i64 v, .string N, .string O, .int .i64 rb, .int .i64 rl, .int .i64 nn, .slice a n cap] 26 (0, 0)) from blk_last w _ rfl)
  rw [← hN, ← hO, ← hn]
  have HN := Lib.hid hn
  have HNM := Lib.hid hN
  have HOT := Lib.hid hO
  clear hs hz hVN hFM hB hl hi hR hn hN hO
  by_cases hlow : v < 1
  · have HF := Lib.hid (HR.out.trans (HNO.out (by omega)))
    go_enter Tryz.func6, Tryz.ntmps6
    go_wp2_with fail
    exact bodyPost_ret (v := .tuple #[.string ⟨#[]⟩, .int .i64 4]) (by simp [results, Tryz.results6, go_sem]) rfl ⟨by rw [HF.out]; rfl, HB0.out⟩
  by_cases hhi : 10 < v
  · have HF := Lib.hid (HR.out.trans (HNO.out (by omega)))
    go_enter Tryz.func6, Tryz.ntmps6
    go_wp2_with fail
    exact bodyPost_ret (v := .tuple #[.string ⟨#[]⟩, .int .i64 4]) (by simp [results, Tryz.results6, go_sem]) rfl ⟨by rw [HF.out]; rfl, HB0.out⟩
  obtain ⟨K, hK⟩ : ∃ K : Nat, v = (K : Nat) := ⟨v.toNat, by omega⟩
  have hK1 : 1 ≤ K := by omega
  have hK2 : K ≤ 10 := by omega
  subst hK
  obtain ⟨L, hL⟩ : ∃ L, L = lineL K ⟨(K : Nat), nm, ot, rb, rl, nn, zs⟩ := ⟨_, rfl⟩
  have HW := Lib.hid (HR.out.trans (HAT.out K rfl hK1 hK2))
  rw [← hL] at HW
  have HLN := Lib.hid (HLINE.out K hK1 hK2)
  rw [← hL] at HLN
  have HRD := Lib.hid (fun W (hW : Below w.heap.size w W) => refAsk_any B L W (Nat.le_trans HBB.out hW.size) (HVN.out.on (hW.mono HBB.out)) (HFM.out.on (hW.mono HBB.out)))
  obtain ⟨⟨er, bv, bn, bo, bb, bl, bx, bz⟩, hx⟩ : ∃ x, x = askF L := ⟨_, rfl⟩
  have hfew := ask_few L
  rw [← hx] at HRD hfew
  dsimp only at hfew
  have HASK := Lib.hid hx
  obtain ⟨LT, hLT⟩ : ∃ x, x = txt L := ⟨_, rfl⟩
  rw [← hLT] at HRD
  have HLT := Lib.hid hLT
  have HLL := Lib.hid hL
  clear hx hLT hL hlow hhi
  obtain ⟨V0, hV0⟩ : ∃ V, V = w.alloc (.cells #[.int .i64 (K : Nat), .string N, .string O, .int .i64 rb, .int .i64 rl, .int .i64 nn, .slice a n cap] 26) := ⟨_, rfl⟩
  rw [← hV0] at HB0 HX0
  have hVs : V0.heap.size = w.heap.size + 1 := by rw [hV0]; simp
  have HV0 := Lib.hid hV0
  have HVS := Lib.hid hVs
  clear hV0 hVs
  have i0 : (1 : Int) ≤ (K : Int) := by omega
  have i1 : (K : Int) ≤ 10 := by omega
  have i2 : (K : Int) < 11 := by omega
  have i3 : (0 : Int) ≤ (K : Int) := by omega
  obtain ⟨b0, o0, cap0, u1, u2, u3, u4, u5⟩ := HVN.out.on (HB0.out.mono HBB.out)
  have u1' : V0.cell? ⟨1, 0, none⟩ = some (.slice (some ⟨b0, o0, none⟩) 11 cap0) := u1
  have u2' : 11 ≤ cap0 := u2
  have hvt := u5 K _ (names_at K (by omega))
  obtain ⟨b1, o1, cap1, m1, m2, m3, m4, m5⟩ := HFM.out.on (HB0.out.mono HBB.out)
  have m1' : V0.cell? ⟨2, 0, none⟩ = some (.slice (some ⟨b1, o1, none⟩) 11 cap1) := m1
  have m2' : 11 ≤ cap1 := m2
  have hfv := m5 K _ (forms_at K (by omega))
  obtain ⟨F, hF⟩ : ∃ F, F = formT K := ⟨_, rfl⟩
  have hFl : F.length ≤ 2 := by rw [hF]; exact form_len K (by omega)
  rw [← hF] at hfv HLN
  obtain ⟨W4, c4, hcv, hb4, hbc⟩ := conv_bytes (txt F) V0
  have hsF : (txt F).size = F.length := txt_size F
  rw [hsF] at hcv
  have hbc2 : ∀ j f, F[j]? = some f → W4.cell? ⟨V0.heap.size, j, none⟩ = some (.int .u8 f.toNat) := fun j f hjf => by
    have hjl := (List.getElem?_eq_some_iff.1 hjf).1
    have h1 := hbc j (by rw [hsF]; exact hjl)
    rw [h1]
    exact congrArg (fun x => some (Value.int .u8 (x : Nat))) (txt_get hjf _)
  have HBC := Lib.hid hbc2
  have HF := Lib.hid hF
  have HB4 := Lib.hid hb4
  have HSV := Lib.hid (HSQ.out.below (by decide) HB0.out)
  obtain ⟨SF, hSF⟩ : ∃ SF, SF = txt F := ⟨_, rfl⟩
  rw [← hSF] at hcv hfv
  obtain ⟨VT, hVT⟩ : ∃ x, x = txt (verbT K) := ⟨_, rfl⟩
  rw [← hVT] at hvt
  have HVT := Lib.hid hVT
  have hv5 : (verbT K).length ≤ 5 := by
    have : ∀ j, j < 11 → (verbT j).length ≤ 5 := by decide
    exact this K (by omega)
  have htot : L.length ≤ 2500000000000005 := by
    rw [← HLN.out, List.length_append]
    have h1 := docW_len HDL.out F 0
    omega
  obtain ⟨⟨x0, x1, x2, x3, x4, x5, x6⟩, -⟩ := seven HX0.out
  have hFl2 : (F.length : Int) ≤ 2 := by omega
  have hb4s := hb4.size
  clear u5 u1 u2 m5 m1 m2 hbc hbc2 hSF hsF hb4 hVT hF
  go_enter Tryz.func6, Tryz.ntmps6
  go_upto_region 1 with fail
  have hV0 : w.alloc (.cells #[.int .i64 (K : Nat), .string N, .string O, .int .i64 rb, .int .i64 rl, .int .i64 nn, .slice a n cap] 26) = V0 := HV0.out.symm
  rw [hV0]
  clear hV0
  go_upto_region 5 with fail
  go_loopw [4, 5, 6, 7, 8, 10, 33] (fun sv _ _ _ _ _ iv wr => ∃ (i : Nat) (L1 : List UInt8), iv = .int .i64 i ∧ i ≤ F.length ∧ sv = .string (txt L1) ∧ Aside (L1 ++ docW ⟨(K : Nat), nm, ot, rb, rl, nn, zs⟩ i (F.drop i) = L) ∧ Aside (∀ j f, F[j]? = some f → wr.cell? ⟨V0.heap.size, j, none⟩ = some (.int .u8 f.toNat)) ∧ Below V0.heap.size V0 wr) (fun _ _ _ _ _ _ iv _ => 3 - (intOf iv).toNat)
  case atStart =>
    refine ⟨0, verbT K, rfl, Nat.zero_le _, by rw [HVT.out], ?_, HBC.out, HB4.out⟩
    show _ = _
    rw [List.drop_zero]; exact HLN.out
  case round =>
    obtain ⟨i, L1, rfl, hi, rfl, HI, HBX, hB⟩ := hrel
    have HBR := Lib.hid hB
    have hrs := hB.size
    obtain ⟨⟨x0, x1, x2, x3, x4, x5, x6⟩, -⟩ := seven ((hB.block _ (lt_of_block HX0.out)).trans HX0.out)
    have hl1 : L1.length ≤ 2500000000000005 := by
      have h1 := congrArg List.length HI.out
      rw [List.length_append] at h1
      omega
    clear hB
    obtain ⟨S, hS⟩ : ∃ x, x = txt L1 := ⟨_, rfl⟩
    rw [← hS]
    have hss : S.size = L1.length := by rw [hS, txt_size]
    have HSS := Lib.hid hS
    clear hS
    by_cases hif : i < F.length
    · obtain ⟨f, hf⟩ : ∃ f, F[i]? = some f := ⟨F[i], List.getElem?_eq_getElem hif⟩
      have hfb := HBX.out i f hf
      have hdr : F.drop i = f :: F.drop (i + 1) := drop_at hf
      have HNX := Lib.hid HI.out
      rw [hdr, docW] at HNX
      have hf5 := form_five K (by omega) f (by rw [← HF.out]; exact List.mem_of_getElem? hf)
      have j2 : (i : Int) < (F.length : Int) := by omega
      have j3 : (0 : Int) ≤ (i : Int) := by omega
      clear hdr hf
      by_cases h114 : f = 114
      · subst h114
        have HNX := Lib.hid (show L1 ++ ((32 :: ruleL rb rl) ++ docW ⟨(K : Nat), nm, ot, rb, rl, nn, zs⟩ (i + 1) (F.drop (i + 1))) = L from HNX.out)
        have hfb' : wr.cell? ⟨V0.heap.size, i, none⟩ = some (.int .u8 114) := hfb
        clear hfb
        obtain ⟨re, hre⟩ : ∃ x, x = (if goodF rb rl = true then (0 : Int) else 3) := ⟨_, rfl⟩
        rw [← hre] at HL1
        obtain ⟨RT, hRT⟩ : ∃ x, x = txt (ruleL rb rl) := ⟨_, rfl⟩
        rw [← hRT] at HL1
        obtain ⟨A2, hA2⟩ : ∃ x, x = txt ([32] ++ ruleL rb rl) := ⟨_, rfl⟩
        obtain ⟨S2, hS2⟩ : ∃ x, x = txt (L1 ++ ([32] ++ ruleL rb rl)) := ⟨_, rfl⟩
        have hnl : (ruleL rb rl).length ≤ 30 := ruleL_len rb rl
        have d3 : ∀ W, (Op.stringOp .add ({ data := #[32] } : ByteArray) RT).run Tryz.prog W = .ok (.string A2) W := fun W => by rw [hRT, hA2]; exact addL [32] (ruleL rb rl) W (by simp <;> omega)
        have d4 : ∀ W, (Op.stringOp .add S A2).run Tryz.prog W = .ok (.string S2) W := fun W => by rw [HSS.out, hA2, hS2]; exact addL _ _ W (by simp <;> omega)
        have HS2 := Lib.hid hS2
        clear hA2 hRT hnl hre hS2
        go_wp2_with fail
        refine (HL1.out _).mono ?_
        rintro e w4 ⟨rfl, hb4⟩
        have HB5 := Lib.hid (HBR.out.trans (hb4.mono HBR.out.size))
        have HB6 := Lib.hid (bytes_keep HBX.out (fun j hx => (hb4.cell (p := ⟨V0.heap.size, j, none⟩) hx)))
        clear hb4
        go_wp2_with fail
        refine ⟨⟨i + 1, L1 ++ ([32] ++ ruleL rb rl), by go_num, by omega, by rw [HS2.out], ?_, HB6.out, HB5.out⟩, by simp [intOf] <;> omega⟩
        show _ = _
        rw [List.append_assoc]; exact HNX.out
      by_cases h100 : f = 100
      · subst h100
        have HNX := Lib.hid (show L1 ++ ((32 :: numL nn) ++ docW ⟨(K : Nat), nm, ot, rb, rl, nn, zs⟩ (i + 1) (F.drop (i + 1))) = L from HNX.out)
        have hfb' : wr.cell? ⟨V0.heap.size, i, none⟩ = some (.int .u8 100) := hfb
        clear hfb h114
        obtain ⟨NT, hNT⟩ : ∃ x, x = txt (numL nn) := ⟨_, rfl⟩
        rw [← hNT] at HIT
        obtain ⟨A2, hA2⟩ : ∃ x, x = txt ([32] ++ numL nn) := ⟨_, rfl⟩
        obtain ⟨S2, hS2⟩ : ∃ x, x = txt (L1 ++ ([32] ++ numL nn)) := ⟨_, rfl⟩
        have hnl : (numL nn).length ≤ 65 := numL_len HIN.out
        have d3 : ∀ W, (Op.stringOp .add ({ data := #[32] } : ByteArray) NT).run Tryz.prog W = .ok (.string A2) W := fun W => by rw [hNT, hA2]; exact addL [32] (numL nn) W (by simp <;> omega)
        have d4 : ∀ W, (Op.stringOp .add S A2).run Tryz.prog W = .ok (.string S2) W := fun W => by rw [HSS.out, hA2, hS2]; exact addL _ _ W (by simp <;> omega)
        have HS2 := Lib.hid hS2
        clear hA2 hNT hnl hS2
        go_wp2_with fail
        refine (HIT.out _).mono ?_
        rintro e w4 ⟨rfl, hb4⟩
        have HB5 := Lib.hid (HBR.out.trans (hb4.mono HBR.out.size))
        have HB6 := Lib.hid (bytes_keep HBX.out (fun j hx => (hb4.cell (p := ⟨V0.heap.size, j, none⟩) hx)))
        clear hb4
        go_wp2_with fail
        refine ⟨⟨i + 1, L1 ++ ([32] ++ numL nn), by go_num, by omega, by rw [HS2.out], ?_, HB6.out, HB5.out⟩, by simp [intOf] <;> omega⟩
        show _ = _
        rw [List.append_assoc]; exact HNX.out
      by_cases h99 : f = 99
      · subst h99
        have HNX := Lib.hid (show L1 ++ (cellsL zs ++ docW ⟨(K : Nat), nm, ot, rb, rl, nn, zs⟩ (i + 1) (F.drop (i + 1))) = L from HNX.out)
        have hfb' : wr.cell? ⟨V0.heap.size, i, none⟩ = some (.int .u8 99) := hfb
        clear hfb h114 h100
        have HIC := Lib.hid (fun (x : Int) (hx : I64 x) W => decimalW_any x W hx)
        have HL10 := Lib.hid hl1
        go_upto_region 15 with fail
        obtain ⟨W6, hW6⟩ : ∃ V, V = wr := ⟨_, rfl⟩
        subst hW6
        go_loopw [4, 10, 71] (fun sv _ iv wr => ∃ (k : Nat) (L2 : List UInt8), iv = .int .i64 k ∧ k ≤ n ∧ sv = .string (txt L2) ∧ Aside (L2 = L1 ++ cellsL (zs.take k)) ∧ Below W6.heap.size W6 wr) (fun _ _ iv _ => n - (intOf iv).toNat)
        case atStart =>
          refine ⟨0, L1, rfl, Nat.zero_le _, by rw [HSS.out], ?_, Below.refl _ _⟩
          show _ = _
          rw [List.take_zero]
          exact (List.append_nil _).symm
        case round =>
          obtain ⟨k, L2, rfl, hk, rfl, HI2, hB⟩ := hrel
          have HBQ := Lib.hid hB
          have HBZ := Lib.hid (HBR.out.trans (hB.mono HBR.out.size))
          have hrs2 := hB.size
          clear hB
          obtain ⟨S2, hS⟩ : ∃ x, x = txt L2 := ⟨_, rfl⟩
          rw [← hS]
          by_cases hlt : k < n
          · obtain ⟨c, hc⟩ : ∃ c, zs[k]? = some c := ⟨zs[k]'(by have := HN.out; omega), by simp⟩
            have hg : GoodCell c := HZ.out c (List.mem_of_getElem? hc)
            obtain ⟨b, o, rfl, hrow⟩ := HSV.out.row (by have := HN.out; omega)
            have hb := HSV.out.lt (by have := HN.out; omega) (by omega)
            have e0 := (HBZ.out.cell (p := ⟨b, o + k * 2, none⟩) hb).trans (hrow _ _ (flat_nthC hc).1)
            have e1 : wr.cell? ⟨b, o + k * 2 + 1, none⟩ = some (.int .i64 c.2) := (HBZ.out.cell (p := ⟨b, o + k * 2 + 1, none⟩) hb).trans (by have := hrow _ _ (flat_nthC hc).2; rw [← Nat.add_assoc] at this; exact this)
            have htk : zs.take (k + 1) = zs.take k ++ [c] := by rw [List.take_add_one, hc]; rfl
            have HTK := Lib.hid htk
            have hsl : L2.length ≤ 2500000000000005 + 132 * k := by
              rw [show L2 = _ from HI2.out, List.length_append]
              have h1 := HL10.out
              have h2 := cellsL_len (zs := zs.take k) (fun z hz => HZ.out z (List.mem_of_mem_take hz))
              rw [List.length_take] at h2
              omega
            have hss2 : S2.size = L2.length := by rw [hS, txt_size]
            obtain ⟨x, y⟩ := c
            have HI1 := Lib.hid hg.1
            have HIY := Lib.hid hg.2
            obtain ⟨Y0, hY0⟩ : ∃ Y, Y = txt (numL x) := ⟨_, rfl⟩
            obtain ⟨Y1, hY1⟩ : ∃ Y, Y = txt (numL y) := ⟨_, rfl⟩
            have z0 : Y0.size ≤ 65 := by rw [hY0, txt_size]; exact numL_len hg.1
            have z1 : Y1.size ≤ 65 := by rw [hY1, txt_size]; exact numL_len hg.2
            have HY0 := Lib.hid hY0
            have HY1 := Lib.hid hY1
            have HS2 := Lib.hid hS
            have q0 : (0 : Int) ≤ (k : Int) := by omega
            have q1 : (k : Int) < (n : Int) := by omega
            dsimp only at e0 e1
            clear hc hg hrow hb htk hY0 hY1 hS
            go_upto_region 17 with fail
            refine wp_namedR ?_
            intro V hV
            have hbV : Below wr.heap.size wr V := by rw [hV]; exact (Below.refl _ _).alloc (Nat.le_refl _) _
            have hxV : V.heap[wr.heap.size]? = some (.cells #[.int .i64 x, .int .i64 y] 35 (0, 0)) := by rw [hV]; exact blk_last wr _ rfl
            have HBV := Lib.hid (HBQ.out.trans (hbV.mono HBQ.out.size))
            have c0 : ∀ g : Grow V, g.val.cell? ⟨wr.heap.size, 0, none⟩ = some (.int .i64 x) := Grow.cells (Joins.cell_of_block hxV 0)
            have c1 : ∀ g : Grow V, g.val.cell? ⟨wr.heap.size, 1, none⟩ = some (.int .i64 y) := Grow.cells (Joins.cell_of_block hxV 1)
            have hgr : ∀ g : Grow V, Below W6.heap.size W6 g.val := fun g => HBV.out.trans (g.below.mono HBV.out.size)
            have k0 := fun g : Grow V => HIC.out x HI1.out g.val
            have k1 := fun g : Grow V => HIC.out y HIY.out g.val
            rw [← HY0.out] at k0
            rw [← HY1.out] at k1
            have K0 := Lib.hid k0
            have K1 := Lib.hid k1
            have HGR := Lib.hid hgr
            have n1 : ¬ (9223372036854775807 < 1 + Y0.size) := by omega
            have n2 : ¬ (9223372036854775807 < 1 + Y0.size + 1) := by omega
            have n3 : ¬ (9223372036854775807 < 1 + Y0.size + 1 + Y1.size) := by omega
            have n4 : ¬ (9223372036854775807 < S2.size + (1 + Y0.size + 1 + Y1.size)) := by omega
            clear k0 k1 hgr hV hbV hxV e0 e1 hss2 hsl
            refine wp_region_grow (by kernel_rfl) (by kernel_rfl) ?_
            repeat (go_big_quiet_step ((go_at_call 13; first | (with_reducible exact grow_of (K0.out _)) | (with_reducible exact grow_of (K1.out _)))))
            refine wpQuiet_nil ?_
            intro _ hw'
            obtain ⟨g, hg⟩ := hw'
            subst hg
            go_wp2_with fail
            refine ⟨⟨k + 1, L2 ++ cellL (x, y), by go_num, by omega, ?_, ?_, HGR.out g⟩, by simp [intOf]; omega⟩
            · rw [HS2.out, HY0.out, HY1.out]
              show Value.string (txt L2 ++ (txt [32] ++ txt (numL x) ++ txt [44] ++ txt (numL y))) = _
              rw [txt_add, txt_add, txt_add, txt_add]
              unfold cellL
              simp
            · show _ = _
              rw [HTK.out, cellsL_snoc, show L2 = _ from HI2.out, List.append_assoc]
          · obtain rfl : k = n := by omega
            have HFE := Lib.hid (show L2 = L1 ++ cellsL zs by rw [show L2 = _ from HI2.out, HN.out, List.take_length])
            have HS2 := Lib.hid hS
            have HB6 := Lib.hid (bytes_keep HBX.out (fun j hx => (HBQ.out.cell (p := ⟨V0.heap.size, j, none⟩) hx)))
            clear hS
            go_wp2_with fail
            refine ⟨⟨i + 1, L1 ++ cellsL zs, by go_num, by omega, by rw [HS2.out, HFE.out], ?_, HB6.out, HBZ.out⟩, by simp [intOf] <;> omega⟩
            show _ = _
            rw [List.append_assoc]; exact HNX.out
      have hrest : f = 110 ∨ f = 112 := by
        rcases hf5 with h | h | h | h | h
        · exact .inl h
        · exact .inr h
        · exact absurd h h114
        · exact absurd h h100
        · exact absurd h h99
      clear h114 h100 h99 hf5
      by_cases hi0 : i = 0
      · subst hi0
        have HNY := Lib.hid (show L1 ++ ((32 :: nm) ++ docW ⟨(K : Nat), nm, ot, rb, rl, nn, zs⟩ (0 + 1) (F.drop (0 + 1))) = L by
          have h1 := HNX.out
          rcases hrest with rfl | rfl
          · exact h1
          · exact h1)
        obtain ⟨A2, hA2⟩ : ∃ x, x = txt ([32] ++ nm) := ⟨_, rfl⟩
        obtain ⟨S2, hS2⟩ : ∃ x, x = txt (L1 ++ ([32] ++ nm)) := ⟨_, rfl⟩
        have d3 : ∀ W, (Op.stringOp .add ({ data := #[32] } : ByteArray) N).run Tryz.prog W = .ok (.string A2) W := fun W => by rw [HNM.out, hA2]; exact addL [32] nm W (by have := HL.out.1; have := HL.out.2; simp <;> omega)
        have d4 : ∀ W, (Op.stringOp .add S A2).run Tryz.prog W = .ok (.string S2) W := fun W => by rw [HSS.out, hA2, hS2]; exact addL _ _ W (by have := HL.out.1; have := HL.out.2; simp <;> omega)
        have HS2 := Lib.hid hS2
        have j4 : (0 : Int) < (F.length : Int) := by omega
        clear hA2 hS2
        rcases hrest with rfl | rfl
        · have hfb' : wr.cell? ⟨V0.heap.size, 0, none⟩ = some (.int .u8 110) := hfb
          clear hfb
          go_wp2_with fail
          refine ⟨⟨0 + 1, L1 ++ ([32] ++ nm), by go_num, by omega, by rw [HS2.out], ?_, HBX.out, HBR.out⟩, by simp [intOf] <;> omega⟩
          show _ = _
          rw [List.append_assoc]; exact HNY.out
        · have hfb' : wr.cell? ⟨V0.heap.size, 0, none⟩ = some (.int .u8 112) := hfb
          clear hfb
          go_wp2_with fail
          refine ⟨⟨0 + 1, L1 ++ ([32] ++ nm), by go_num, by omega, by rw [HS2.out], ?_, HBX.out, HBR.out⟩, by simp [intOf] <;> omega⟩
          show _ = _
          rw [List.append_assoc]; exact HNY.out
      · have HQ := HNX
        have HNY := Lib.hid (show L1 ++ ((32 :: ot) ++ docW ⟨(K : Nat), nm, ot, rb, rl, nn, zs⟩ (i + 1) (F.drop (i + 1))) = L by
          have h1 := HNX.out
          rcases hrest with rfl | rfl
          · rw [show docT ⟨(K : Nat), nm, ot, rb, rl, nn, zs⟩ i _ = 32 :: ot by unfold docT; simp [hi0]] at h1
            exact h1
          · rw [show docT ⟨(K : Nat), nm, ot, rb, rl, nn, zs⟩ i _ = 32 :: ot by unfold docT; simp [hi0]] at h1
            exact h1)
        obtain ⟨A2, hA2⟩ : ∃ x, x = txt ([32] ++ ot) := ⟨_, rfl⟩
        obtain ⟨S2, hS2⟩ : ∃ x, x = txt (L1 ++ ([32] ++ ot)) := ⟨_, rfl⟩
        have d3 : ∀ W, (Op.stringOp .add ({ data := #[32] } : ByteArray) O).run Tryz.prog W = .ok (.string A2) W := fun W => by rw [HOT.out, hA2]; exact addL [32] ot W (by have := HL.out.1; have := HL.out.2; simp <;> omega)
        have d4 : ∀ W, (Op.stringOp .add S A2).run Tryz.prog W = .ok (.string S2) W := fun W => by rw [HSS.out, hA2, hS2]; exact addL _ _ W (by have := HL.out.1; have := HL.out.2; simp <;> omega)
        have HS2 := Lib.hid hS2
        have HI0 := Lib.hid hi0
        have j4 : ((i : Int) == 0) = false := by rw [beq_eq_false_iff_ne]; omega
        have j5 : ¬ ((i : Int) = 0) := by omega
        clear hA2 hS2 hi0
        rcases hrest with rfl | rfl
        · have hfb' : wr.cell? ⟨V0.heap.size, i, none⟩ = some (.int .u8 110) := hfb
          clear hfb
          go_wp2_with fail
          refine ⟨⟨i + 1, L1 ++ ([32] ++ ot), by go_num, by omega, by rw [HS2.out], ?_, HBX.out, HBR.out⟩, by simp [intOf] <;> omega⟩
          show _ = _
          rw [List.append_assoc]; exact HNY.out
        · have hfb' : wr.cell? ⟨V0.heap.size, i, none⟩ = some (.int .u8 112) := hfb
          clear hfb
          go_wp2_with fail
          refine ⟨⟨i + 1, L1 ++ ([32] ++ ot), by go_num, by omega, by rw [HS2.out], ?_, HBX.out, HBR.out⟩, by simp [intOf] <;> omega⟩
          show _ = _
          rw [List.append_assoc]; exact HNY.out
    · obtain rfl : i = F.length := by omega
      have hfin : LT = S := by
        have h1 := HI.out
        rw [List.drop_length] at h1
        rw [HLT.out, HSS.out, ← h1]
        exact congrArg txt (List.append_nil _)
      subst hfin
      have t9 : ¬ ((F.length : Int) < (F.length : Int)) := by omega
      go_upto_region 22 with fail
      go_wp2_with fail
      refine (HRD.out _ (HB0.out.trans (HBR.out.mono HB0.out.size))).mono ?_
      rintro e w5 ⟨cv, rfl, hb5, hc5⟩
      obtain ⟨b5, c5, rfl, -⟩ := hc5.1.form
      have HB5 := Lib.hid (HBR.out.trans (hb5.mono HBR.out.size))
      have HC5 := Lib.hid hc5
      unfold Ask.cells'
      dsimp only
      have hs5 := HB5.out.size
      clear x0 x1 x2 x3 x4 x5 x6
      obtain ⟨⟨x0, x1, x2, x3, x4, x5, x6⟩, -⟩ := seven ((HB5.out.block _ (lt_of_block HX0.out)).trans HX0.out)
      have hl5 := lt_of_block ((HB5.out.block _ (lt_of_block HX0.out)).trans HX0.out)
      clear hb5 hc5
      by_cases her : er = 0
      · subst her
        go_wp2_with fail
        refine (HSM.out ⟨bv, bn, bo, bb, bl, bx, bz⟩ _ _ _ ((HB0.out.trans (HB5.out.mono HB0.out.size)).alloc (Nat.le_trans HB0.out.size HB5.out.size) _) ((HC5.out.below ((Below.refl _ _).alloc (Nat.le_refl _) _)).slR hfew)).mono ?_
        rintro e w6 ⟨rfl, hb6⟩
        have HB6 := Lib.hid (((HB0.out.trans (HB5.out.mono HB0.out.size)).alloc (Nat.le_trans HB0.out.size HB5.out.size) _).trans (hb6.mono (Nat.le_trans (Nat.le_trans HB0.out.size HB5.out.size) (by simp))))
        clear hb6
        obtain ⟨sb, hsb⟩ : ∃ b, b = sameA ⟨bv, bn, bo, bb, bl, bx, bz⟩ ⟨(K : Nat), nm, ot, rb, rl, nn, zs⟩ := ⟨_, rfl⟩
        rw [← hsb]
        have HSB := Lib.hid hsb
        clear hsb
        cases sb with
        | true =>
          go_wp2_with fail
          refine bodyPost_ret (v := .tuple #[.string LT, .int .i64 0]) (by simp [results, Tryz.results6, go_sem]) rfl ?_
          exact ⟨by rw [HW.out, writeT_ok HASK.out HSB.out.symm, HLT.out], HB6.out⟩
        | false =>
          go_wp2_with fail
          refine bodyPost_ret (v := .tuple #[.string ⟨#[]⟩, .int .i64 2]) (by simp [results, Tryz.results6, go_sem]) rfl ?_
          exact ⟨by rw [HW.out, writeT_no HASK.out HSB.out.symm]; rfl, HB6.out⟩
      · have HER := Lib.hid her
        have t1 : (er == 0) = false := by rw [beq_eq_false_iff_ne]; exact her
        clear her
        go_wp2_with fail
        refine bodyPost_ret (v := .tuple #[.string ⟨#[]⟩, .int .i64 er]) (by simp [results, Tryz.results6, go_sem]) rfl ?_
        exact ⟨by rw [HW.out, writeT_err HASK.out HER.out]; rfl, ((HB0.out.trans (HB5.out.mono HB0.out.size)).alloc (Nat.le_trans HB0.out.size HB5.out.size) _)⟩
end Go.Proofs.YtdmamecfmfhlmaaGreatDoor
