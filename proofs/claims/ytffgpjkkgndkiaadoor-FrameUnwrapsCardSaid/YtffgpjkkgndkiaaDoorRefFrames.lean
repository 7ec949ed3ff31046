/-
  The document's WrapText: a text in frames.
-/
import Derived.Test.YtffgpjkkgndkiaaDoorFrameMath
import Derived.Test.YtffgpjkkgndkiaaDoorMem
namespace Go.Proofs.YtffgpjkkgndkiaaDoor
set_option maxRecDepth 100000
open Go.RowKit

theorem conv_pair {w : World} {g : Nat} {a b : Nat} (h : w.heap[g]? = some (.cells #[.int .u8 a, .int .u8 b] 5 (0, 0))) :
    (convert 58 9 (.slice (some ⟨g, 0, none⟩) 2 2)).run Tryd.prog w = .ok (.string (txt [UInt8.ofNat a, UInt8.ofNat b])) w := by
  have h1 := run_convert_bytes_arg (P := Tryd.prog) w 58 5 Tryd.underlying58 Tryd.underlying5 g 0 2 2 [(a : Int), (b : Int)] rfl (fun i hi => by
    rw [Joins.cell_of_block h]
    match i, hi with
    | 0, _ => rfl
    | 1, _ => rfl) 9 Tryd.underlying9
  rw [h1]
  congr 2
set_option maxRecDepth 100000 in
set_option maxHeartbeats 1000000 in
theorem refWrap_any (l : List UInt8) (w : World) (hl : l.length ≤ 281474976710656) :
    Calls Tryd.prog 16 #[.string (txt l)] w fun e w' => e = .returned (.string (txt (wrapF l))) ∧ Below w.heap.size w w' := by
  go_enter Tryd.func16, Tryd.ntmps16
  go_wp2_with fail
  go_loopw [0, 3] (fun s o wr => ∃ (d r : List UInt8), s = .string (txt r) ∧ o = .string (txt d) ∧ wrapF l = d ++ wrapF r ∧ r.length ≤ l.length ∧ Below w.heap.size w wr) (fun s _ _ => wrapM s (.bool true))
  case atStart => exact ⟨[], l, rfl, rfl, rfl, Nat.le_refl _, Below.refl _ _⟩
  case round =>
    obtain ⟨d, r, rfl, rfl, hd, hr, hB⟩ := hrel
    have HD := Lib.hid hd
    clear hd
    obtain ⟨S, hS⟩ : ∃ S, S = txt r := ⟨_, rfl⟩
    rw [← hS]
    obtain ⟨n, hn⟩ : ∃ n, n = r.length := ⟨_, rfl⟩
    have hsz : S.size = n := by rw [hS, txt_size, hn]
    have hnl : n ≤ l.length := by omega
    have HS := Lib.hid hS
    have HN := Lib.hid hn
    clear hS hn hr
    by_cases hlong : 126 < n
    · have h2 : (126 : Int) < (n : Int) := by omega
      have h3 : (126 : Int) ≤ (n : Int) := by omega
      have hcv : (convert 58 9 (.slice (some ⟨wr.heap.size, 0, none⟩) 2 2)).run Tryd.prog (wr.alloc (.cells #[.int .u8 1, .int .u8 126] 5)).drew = .ok (.string (txt [1, 126])) (wr.alloc (.cells #[.int .u8 1, .int .u8 126] 5)).drew :=
        conv_pair (a := 1) (b := 126) (blk_last wr _ rfl)
      have hex : (S.extract 0 126).size = 126 := by simp; omega
      have had : ∀ W : World, (Op.stringOp .add (txt [1, 126]) (S.extract 0 126)).run Tryd.prog W = .ok (.string (txt [1, 126] ++ S.extract 0 126)) W := fun W => run_string_add_sum (P := Tryd.prog) W _ _ (by rw [hex, txt_size]; simp)
      go_wp2_with fail
      go_region
      obtain ⟨g0, hg0⟩ : ∃ g0, g0 = [1, 126] ++ r.take 126 := ⟨_, rfl⟩
      rw [show txt [1, 126] ++ S.extract 0 126 = txt g0 from by rw [HS.out, extract_list, txt_add, hg0]; rfl]
      have hgl : g0.length = 128 := by rw [hg0]; have := HN.out; simp; omega
      obtain ⟨w2, hw2⟩ : ∃ w2, w2 = (wr.alloc (.cells #[.int .u8 1, .int .u8 126] 5)).drew := ⟨_, rfl⟩
      rw [← hw2]
      have hb2 : Below wr.heap.size wr w2 := by rw [hw2]; exact ((Below.refl _ _).alloc (Nat.le_refl _) _).drew
      have HG := Lib.hid hg0
      have HL := Lib.hid hgl
      clear hcv had hw2 hg0 hgl
      go_wp2_with fail
      go_loop [6] (fun f => ∃ j : Nat, f = .string (txt (g0 ++ List.replicate j 0)) ∧ g0.length + j ≤ 128) (fun f => 128 - strSz f)
      case atStart => exact ⟨0, by simp, by rw [HL.out]; omega⟩
      case round =>
        obtain ⟨j, rfl, hj⟩ := hrel
        by_cases hjl : g0.length + j < 128
        · have hsz1 : (txt (g0 ++ List.replicate j 0)).size = g0.length + j := by rw [txt_size]; simp
          have hZ : (⟨#[0]⟩ : ByteArray) = txt [0] := rfl
          have had : ∀ W : World, (Op.stringOp .add (txt (g0 ++ List.replicate j 0)) ⟨#[0]⟩).run Tryd.prog W = .ok (.string (txt (g0 ++ List.replicate (j + 1) 0))) W := fun W => by
            rw [hZ, run_string_add_sum (P := Tryd.prog) W _ _ (by rw [txt_size, txt_size]; simp; omega), txt_add, pad_snoc]
          obtain ⟨T, hT⟩ : ∃ T, T = txt (g0 ++ List.replicate j 0) := ⟨_, rfl⟩
          obtain ⟨T', hT'⟩ : ∃ T', T' = txt (g0 ++ List.replicate (j + 1) 0) := ⟨_, rfl⟩
          rw [← hT'] at had
          rw [← hT] at hsz1 had ⊢
          have HT := Lib.hid hT
          have HT' := Lib.hid hT'
          clear hT hT' hZ
          go_wp2_with fail
          refine ⟨⟨j + 1, by rw [HT'.out], by omega⟩, ?_⟩
          simp only [strSz, HT'.out, txt_size, List.length_append, List.length_replicate, hsz1]
          omega
        · have hT : (txt (g0 ++ List.replicate j 0)).size = 128 := by rw [txt_size]; simp; omega
          have hfr : g0 ++ List.replicate j 0 = frameOf 1 (r.take 126) := frame_pad (m := 1) (k := 126) HG.out (by have := HN.out; simp; omega) j (by have := HL.out; omega)
          rw [hfr] at hT ⊢
          obtain ⟨F, hF⟩ : ∃ F, F = frameOf 1 (r.take 126) := ⟨_, rfl⟩
          rw [← hF] at hT ⊢
          have hdl : d.length ≤ 300000000000000 := by
            have h1 := wrapF_length l
            rw [HD.out, List.length_append] at h1
            omega
          have had : ∀ W : World, (Op.stringOp .add (txt d) (txt F)).run Tryd.prog W = .ok (.string (txt d ++ txt F)) W := fun W => run_string_add_sum (P := Tryd.prog) W _ _ (by rw [hT, txt_size]; omega)
          have HF := Lib.hid hF
          clear hF hfr hdl
          have hw1 := hB.size
          go_wp2_with fail
          refine ⟨⟨d ++ F, r.drop 126, ?_, by rw [txt_add], ?_, ?_, hB.trans (hb2.mono hw1)⟩, ?_⟩
          · rw [HS.out, extract_list, HN.out, List.take_length]
          · rw [HD.out, wrapF_long (by rw [← HN.out]; exact hlong), HF.out, List.append_assoc]
          · have := HN.out; simp; omega
          · simp [wrapM]; omega
    · have h2 : (n : Int) ≤ 126 := by omega
      have h3 : (0 : Int) ≤ (n : Int) := by omega
      have hcv : (convert 58 9 (.slice (some ⟨wr.heap.size, 0, none⟩) 2 2)).run Tryd.prog (wr.alloc (.cells #[.int .u8 0, .int .u8 n] 5)).drew = .ok (.string (txt [0, UInt8.ofNat n])) (wr.alloc (.cells #[.int .u8 0, .int .u8 n] 5)).drew :=
        conv_pair (a := 0) (b := n) (blk_last wr _ rfl)
      have hex : (S.extract 0 n).size = n := by simp; omega
      have had : ∀ W : World, (Op.stringOp .add (txt [0, UInt8.ofNat n]) (S.extract 0 n)).run Tryd.prog W = .ok (.string (txt [0, UInt8.ofNat n] ++ S.extract 0 n)) W := fun W => run_string_add_sum (P := Tryd.prog) W _ _ (by rw [hex, txt_size]; simp; omega)
      go_wp2_with fail
      go_region
      obtain ⟨g0, hg0⟩ : ∃ g0, g0 = [0, UInt8.ofNat n] ++ r := ⟨_, rfl⟩
      rw [show txt [0, UInt8.ofNat n] ++ S.extract 0 n = txt g0 from by rw [HS.out, extract_list, txt_add, hg0, HN.out, List.take_length]; rfl]
      have hgl : g0.length = 2 + n := by rw [hg0]; have := HN.out; simp; omega
      obtain ⟨w2, hw2⟩ : ∃ w2, w2 = (wr.alloc (.cells #[.int .u8 0, .int .u8 n] 5)).drew := ⟨_, rfl⟩
      rw [← hw2]
      have hb2 : Below wr.heap.size wr w2 := by rw [hw2]; exact ((Below.refl _ _).alloc (Nat.le_refl _) _).drew
      have HG := Lib.hid hg0
      have HL := Lib.hid hgl
      clear hcv had hw2 hg0 hgl
      go_wp2_with fail
      go_loop [6] (fun f => ∃ j : Nat, f = .string (txt (g0 ++ List.replicate j 0)) ∧ g0.length + j ≤ 128) (fun f => 128 - strSz f)
      case atStart => exact ⟨0, by simp, by rw [HL.out]; omega⟩
      case round =>
        obtain ⟨j, rfl, hj⟩ := hrel
        by_cases hjl : g0.length + j < 128
        · have hsz1 : (txt (g0 ++ List.replicate j 0)).size = g0.length + j := by rw [txt_size]; simp
          have hZ : (⟨#[0]⟩ : ByteArray) = txt [0] := rfl
          have had : ∀ W : World, (Op.stringOp .add (txt (g0 ++ List.replicate j 0)) ⟨#[0]⟩).run Tryd.prog W = .ok (.string (txt (g0 ++ List.replicate (j + 1) 0))) W := fun W => by
            rw [hZ, run_string_add_sum (P := Tryd.prog) W _ _ (by rw [txt_size, txt_size]; simp; omega), txt_add, pad_snoc]
          obtain ⟨T, hT⟩ : ∃ T, T = txt (g0 ++ List.replicate j 0) := ⟨_, rfl⟩
          obtain ⟨T', hT'⟩ : ∃ T', T' = txt (g0 ++ List.replicate (j + 1) 0) := ⟨_, rfl⟩
          rw [← hT'] at had
          rw [← hT] at hsz1 had ⊢
          have HT := Lib.hid hT
          have HT' := Lib.hid hT'
          clear hT hT' hZ
          go_wp2_with fail
          refine ⟨⟨j + 1, by rw [HT'.out], by omega⟩, ?_⟩
          simp only [strSz, HT'.out, txt_size, List.length_append, List.length_replicate, hsz1]
          omega
        · have hT : (txt (g0 ++ List.replicate j 0)).size = 128 := by rw [txt_size]; simp; omega
          have hfr : g0 ++ List.replicate j 0 = frameOf 0 r := frame_pad (m := 0) (k := n) HG.out HN.out.symm j (by have := HL.out; omega)
          rw [hfr] at hT ⊢
          obtain ⟨F, hF⟩ : ∃ F, F = frameOf 0 r := ⟨_, rfl⟩
          rw [← hF] at hT ⊢
          have hdl : d.length ≤ 300000000000000 := by
            have h1 := wrapF_length l
            rw [HD.out, List.length_append] at h1
            omega
          have had : ∀ W : World, (Op.stringOp .add (txt d) (txt F)).run Tryd.prog W = .ok (.string (txt d ++ txt F)) W := fun W => run_string_add_sum (P := Tryd.prog) W _ _ (by rw [hT, txt_size]; omega)
          have HF := Lib.hid hF
          clear hF hfr hdl
          have hw1 := hB.size
          go_wp2_with fail
          go_ret
          refine ⟨?_, hB.trans (hb2.mono hw1)⟩
          rw [HD.out, wrapF_short (by rw [← HN.out]; omega), ← HF.out, txt_add]
          rfl
end Go.Proofs.YtffgpjkkgndkiaaDoor
