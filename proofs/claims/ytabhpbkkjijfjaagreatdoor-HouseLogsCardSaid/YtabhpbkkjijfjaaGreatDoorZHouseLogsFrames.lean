/-
  frame.Wrap: a text in frames.
-/
import Derived.Lib.BufferWrite
import Derived.Laws.CopyOwn
import Derived.Deep.RegionLaw
import Derived.Test.YtabhpbkkjijfjaaGreatDoorZHouseLogs37
import Derived.Test.YtabhpbkkjijfjaaGreatDoorZHouseLogsBuild
import Derived.Test.YtabhpbkkjijfjaaGreatDoorZHouseLogs2
namespace Go.Proofs.YtabhpbkkjijfjaaGreatDoor
set_option maxRecDepth 100000
open Go.RowKit

set_option maxRecDepth 100000 in
set_option maxHeartbeats 1000000 in
theorem wrap_any (l : List UInt8) (w : World) (hl : l.length ≤ 1048576) :
    Calls Tryz.prog 24 #[.string (txt l)] w fun e w' => e = .returned (.string (txt (wrapF l))) ∧ Below w.heap.size w w' := by
  have hmk : ∀ W : World, (Instr.makeSlice 51 (.int .i64 128) (.int .i64 128)).run Tryz.prog W = .ok (.slice (some ⟨W.heap.size, 0, none⟩) 128 128) (W.alloc (.cells (zerosA 128) 5)) := fun W => make_bytes 128 128 (by omega) (by omega) W
  have hz0 : (zerosA 128)[0]? = some (.int .u8 0) := zerosA_get (by omega)
  have hz1 : (zerosA 128)[1]? = some (.int .u8 0) := zerosA_get (by omega)
  go_enter Tryz.func24, Tryz.ntmps24
  go_wp2_with fail
  go_loopw [0, 4] (fun s more wr => ∃ (d r : List UInt8) (m : Bool), s = .string (txt r) ∧ more = .bool m ∧ (if m then wrapF l = d ++ wrapF r else wrapF l = d) ∧ r.length ≤ l.length ∧ Lib.IsBuilder 53 5 w.heap.size w.heap.size (Lib.byteCells d) wr ∧ Below w.heap.size w wr) (fun s more _ => wrapM s more)
  case atStart => exact ⟨[], l, true, rfl, rfl, by simp, Nat.le_refl _, Lib.fresh_isBuilder _ _ _, (Below.refl _ _).alloc (Nat.le_refl _) _⟩
  case round =>
    obtain ⟨d, r, m, rfl, rfl, hd, hr, hI, hB⟩ := hrel
    cases m with
    | false =>
      have hd' : wrapF l = d := by simpa using hd
      have HD := Lib.hid hd'
      clear hd hd'
      go_wp2_with fail
      refine (bstring_any w.heap.size w.heap.size d _ hI hB.size).mono ?_
      rintro e w3 ⟨rfl, hb3⟩
      go_wp2_with fail
      go_ret
      exact ⟨by rw [HD.out]; rfl, hB.trans hb3⟩
    | true =>
      have hd' : wrapF l = d ++ wrapF r := by simpa using hd
      have HD := Lib.hid hd'
      clear hd hd'
      obtain ⟨S, hS⟩ : ∃ S, S = txt r := ⟨_, rfl⟩
      rw [← hS]
      obtain ⟨n, hn⟩ : ∃ n, n = r.length := ⟨_, rfl⟩
      have hsz : S.size = n := by rw [hS, txt_size, hn]
      have hnl : n ≤ l.length := by omega
      have HS := Lib.hid hS
      have HN := Lib.hid hn
      clear hS hn hr
      by_cases hlong : 126 < n
      · have h1 : min (n : Int) 126 = 126 := by omega
        have h2 : (126 : Int) < (n : Int) := by omega
        have h3 : (126 : Int) ≤ (n : Int) := by omega
        have hex : (S.extract 0 126).size = 126 := by simp; omega
        go_wp2_with fail
        obtain ⟨A, hA⟩ : ∃ A, A = frameA 1 126 := ⟨_, rfl⟩
        rw [show ((zerosA 128).setIfInBounds 0 (Value.int IntKind.u8 1)).setIfInBounds 1 (Value.int IntKind.u8 126) = A from hA.symm]
        have hAs : A.size = 128 := by rw [hA, frameA_size]
        have hrow : A.toList.take 2 ++ (Lib.byteCells (S.data.toList.take 126) ++ A.toList.drop 128) = Lib.byteCells (frameOf 1 (r.take 126)) := by
          have e : S.data.toList.take 126 = r.take 126 := by rw [HS.out, txt_data]
          rw [hA, e]
          exact frame_row (by omega) (by have := HN.out; simp; omega) (by omega)
        clear hA
        have HR := Lib.hid hrow
        clear hrow
        have hg : (wr.alloc (.cells A 5)).drew.heap[wr.heap.size]? = some (.cells A 5 (0, 0)) := blk_last wr _ rfl
        have hcp := Lib.run_copy_row_string (P := Tryz.prog) (wr.alloc (.cells A 5)).drew 51 9 3 5 wr.heap.size 2 126 126 (S.extract 0 126) A 5 Tryz.underlying51 (by kernel_rfl) hg (by omega) (by omega)
        have HC := Lib.hid hcp
        clear hcp
        go_region_law ((refine step_copy_eq rfl (.tmp 24) (.tmp 27) _ _ rfl _ _ rfl rfl HC.out ?_))
        rw [HR.out]
        obtain ⟨F, hF⟩ : ∃ F, F = frameOf 1 (r.take 126) := ⟨_, rfl⟩
        rw [← hF]
        have hFl : F.length = 128 := by rw [hF]; exact frameOf_length _ (by simp; omega)
        obtain ⟨w2, hw2⟩ : ∃ w2, w2 = (wr.alloc (.cells A 5)).drew.setRow wr.heap.size (Lib.byteCells F).toArray := ⟨_, rfl⟩
        rw [← hw2]
        have hb2 : Below wr.heap.size wr w2 := by rw [hw2]; exact below_setRow ((Below.refl _ _).alloc (Nat.le_refl _) _).drew (Nat.le_refl _) _
        have hg2 : w2.heap[wr.heap.size]? = some (.cells (Lib.byteCells F).toArray 5 (0, 0)) := by rw [hw2]; exact setRow_heap _ _ _ _ _ _ hg
        have hlt2 := isBuilder_lt hI
        have HF := Lib.hid hF
        clear hw2 hg HC HR hF
        have hdl : d.length ≤ 1065372 := by
          have h1 := wrapF_length l
          rw [HD.out, List.length_append] at h1
          omega
        have hw1 := hB.size
        have hFb : (Lib.byteCells F).length = 128 := by rw [Lib.byteCells, List.length_map, hFl]
        have hdb : (Lib.byteCells d).length = d.length := by rw [Lib.byteCells, List.length_map]
        have hI2 := isBuilder_below hI hb2
        have hsz2 := hb2.size
        have hnw : ∀ j u, (Lib.byteCells F)[j]? = some u → w2.cell? ((⟨wr.heap.size, 0, none⟩ : Addr).add j) = some u := by
          intro j u hj
          rw [Addr.add_lit, Nat.zero_add, Joins.cell_of_block hg2]
          simpa using hj
        have HW := Lib.hid hnw
        have H1 := Lib.hid hFb
        have H2 := Lib.hid hdb
        have H3 := Lib.hid hFl
        clear hnw hFb hdb hFl hI
        go_wp2_with fail
        refine (bwrite_any w.heap.size w.heap.size (Lib.byteCells d) ⟨wr.heap.size, 0, none⟩ 128 128 (Lib.byteCells F) w2 hI2 H1.out HW.out (by simp; omega) (Lib.byteCells_one _) (by rw [H2.out]; omega) (by omega)).mono ?_
        rintro e w3 ⟨rfl, hI3, hb3⟩
        go_wp2_with fail
        refine ⟨⟨d ++ F, r.drop 126, true, ?_, rfl, ?_, ?_, ?_, (hB.trans (hb2.mono hw1)).trans hb3⟩, ?_⟩
        · rw [HS.out, extract_list, HN.out, List.take_length]
        · rw [if_pos rfl, HD.out, wrapF_long (by rw [← HN.out]; exact hlong), HF.out, List.append_assoc]
        · have := HN.out; simp; omega
        · rw [byteCells_append]; exact .inr hI3
        · simp [wrapM]; omega
      · have h1 : min (n : Int) 126 = (n : Int) := by omega
        have h2 : (0 : Int) ≤ (n : Int) := by omega
        have h3 : (n : Int) ≤ 126 := by omega
        have h3n : n ≤ 126 := by omega
        have hex : (S.extract 0 n).size = n := by simp; omega
        go_wp2_with fail
        obtain ⟨A, hA⟩ : ∃ A, A = frameA 0 n := ⟨_, rfl⟩
        rw [show (zerosA 128).setIfInBounds 1 (Value.int IntKind.u8 n) = A from by rw [hA, frameA0]]
        have hAs : A.size = 128 := by rw [hA, frameA_size]
        have hrow : A.toList.take 2 ++ (Lib.byteCells (S.data.toList.take n) ++ A.toList.drop (2 + n)) = Lib.byteCells (frameOf 0 r) := by
          have e : S.data.toList.take n = r := by rw [HS.out, txt_data, HN.out, List.take_length]
          rw [hA, e]
          exact frame_row (m := 0) (by omega) HN.out.symm (by omega)
        clear hA
        have HR := Lib.hid hrow
        clear hrow
        have hg : (wr.alloc (.cells A 5)).drew.heap[wr.heap.size]? = some (.cells A 5 (0, 0)) := blk_last wr _ rfl
        have hcp := Lib.run_copy_row_string (P := Tryz.prog) (wr.alloc (.cells A 5)).drew 51 9 3 5 wr.heap.size 2 126 126 (S.extract 0 n) A 5 Tryz.underlying51 (by kernel_rfl) hg (by omega) (by omega)
        have HC := Lib.hid hcp
        clear hcp
        go_region_law ((refine step_copy_eq rfl (.tmp 24) (.tmp 27) _ _ rfl _ _ rfl rfl HC.out ?_))
        rw [HR.out]
        obtain ⟨F, hF⟩ : ∃ F, F = frameOf 0 r := ⟨_, rfl⟩
        rw [← hF]
        have hFl : F.length = 128 := by rw [hF]; exact frameOf_length _ (by have := HN.out; omega)
        obtain ⟨w2, hw2⟩ : ∃ w2, w2 = (wr.alloc (.cells A 5)).drew.setRow wr.heap.size (Lib.byteCells F).toArray := ⟨_, rfl⟩
        rw [← hw2]
        have hb2 : Below wr.heap.size wr w2 := by rw [hw2]; exact below_setRow ((Below.refl _ _).alloc (Nat.le_refl _) _).drew (Nat.le_refl _) _
        have hg2 : w2.heap[wr.heap.size]? = some (.cells (Lib.byteCells F).toArray 5 (0, 0)) := by rw [hw2]; exact setRow_heap _ _ _ _ _ _ hg
        have hlt2 := isBuilder_lt hI
        have HF := Lib.hid hF
        clear hw2 hg HC HR hF
        have hdl : d.length ≤ 1065372 := by
          have h1 := wrapF_length l
          rw [HD.out, List.length_append] at h1
          omega
        have hw1 := hB.size
        have hFb : (Lib.byteCells F).length = 128 := by rw [Lib.byteCells, List.length_map, hFl]
        have hdb : (Lib.byteCells d).length = d.length := by rw [Lib.byteCells, List.length_map]
        have hI2 := isBuilder_below hI hb2
        have hsz2 := hb2.size
        have hnw : ∀ j u, (Lib.byteCells F)[j]? = some u → w2.cell? ((⟨wr.heap.size, 0, none⟩ : Addr).add j) = some u := by
          intro j u hj
          rw [Addr.add_lit, Nat.zero_add, Joins.cell_of_block hg2]
          simpa using hj
        have HW := Lib.hid hnw
        have H1 := Lib.hid hFb
        have H2 := Lib.hid hdb
        have H3 := Lib.hid hFl
        clear hnw hFb hdb hFl hI
        go_wp2_with fail
        refine (bwrite_any w.heap.size w.heap.size (Lib.byteCells d) ⟨wr.heap.size, 0, none⟩ 128 128 (Lib.byteCells F) w2 hI2 H1.out HW.out (by simp; omega) (Lib.byteCells_one _) (by rw [H2.out]; omega) (by omega)).mono ?_
        rintro e w3 ⟨rfl, hI3, hb3⟩
        go_wp2_with fail
        refine ⟨⟨d ++ F, [], false, ?_, rfl, ?_, Nat.zero_le _, ?_, (hB.trans (hb2.mono hw1)).trans hb3⟩, ?_⟩
        · rfl
        · rw [if_neg (by decide), HD.out, wrapF_short (by rw [← HN.out]; exact h3n), HF.out]
        · rw [byteCells_append]; exact .inr hI3
        · simp [wrapM]
end Go.Proofs.YtabhpbkkjijfjaaGreatDoor
