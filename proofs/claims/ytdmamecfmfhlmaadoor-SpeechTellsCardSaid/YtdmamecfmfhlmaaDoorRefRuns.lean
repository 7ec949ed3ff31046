/-
  The document's add: a piece onto the runs that a closure holds.
-/
import Derived.Test.YtdmamecfmfhlmaaDoorTextRow
import Derived.Test.YtdmamecfmfhlmaaDoorBigDigits
import Derived.Test.YtdmamecfmfhlmaaDoorWriteMath
namespace Go.Proofs.YtdmamecfmfhlmaaDoor
set_option maxRecDepth 100000
open Go.RowKit

/-- Block br holds a list of texts that lie in blocks of one's own. -/
def RunsAt (br : Nat) (P : List (List UInt8)) (w : World) : Prop := ∃ v, w.heap[br]? = some (.cells #[v] 80 (0, 0)) ∧ TextsOf (br + 1) w v P
theorem RunsAt.lt {br : Nat} {P : List (List UInt8)} {w : World} (h : RunsAt br P w) : br < w.heap.size := by
  obtain ⟨v, h, _⟩ := h
  exact lt_of_block h
theorem RunsAt.below {br : Nat} {P : List (List UInt8)} {w w' : World} (h : RunsAt br P w) (hb : Below w.heap.size w w') : RunsAt br P w' := by
  obtain ⟨v, h1, h2⟩ := h
  exact ⟨v, by rw [hb.block _ (lt_of_block h1)]; exact h1, h2.below hb⟩
theorem RunsAt.fresh (w : World) : RunsAt w.heap.size [] (w.alloc (.cells #[.slice none 0 0] 80)) := ⟨_, blk_last w _ rfl, TextsOf.nil _ _⟩
set_option maxHeartbeats 4000000 in
theorem runs_any (br : Nat) (P : List (List UInt8)) (n : Nat) (c : UInt8) (T : ByteArray) (hT : T = txt [c]) (w : World) (h : RunsAt br P w) (hn : n < 9223372036854775808) (hP : P.length ≤ 100000) :
    Calls Tryd.prog 35 #[.int .i64 n, .string T, .pointer (some ⟨br, 0, none⟩)] w fun e w' => e = .returned (.tuple #[]) ∧ RunsAt br (P ++ tok n c) w' ∧ Below br w w' := by
  obtain ⟨i0, hi, hz0, hz1, hz2⟩ := info_parts infoStr
  obtain ⟨v, hb, hO⟩ := h
  obtain ⟨va, vc, rfl⟩ := hO.form
  have hbl := lt_of_block hb
  have hTs : T.size = 1 := by rw [hT, txt_size]; rfl
  rcases Nat.eq_zero_or_pos n with rfl | hn0
  · go_enter Tryd.func35, Tryd.ntmps35
    go_wp2_with fail
    go_end0
    exact ⟨rfl, ⟨_, by simpa [tok] using hb, by simpa [tok] using hO⟩, Below.refl _ _⟩
  · have htk : tok n c = [tokT n c] := by rw [tok, if_neg (by omega)]
    obtain ⟨q, hq⟩ : ∃ q, q = P.length := ⟨_, rfl⟩
    have HQ := Lib.hid hq
    have HO := Lib.hid hO
    have HTK := Lib.hid htk
    unfold TextsOf at hO
    rw [← hq] at hb hO hP
    clear hq htk
    have d0 : w.cell? ⟨br, 0, none⟩ = some (.slice va q vc) := Joins.cell_of_block hb 0
    rcases Nat.lt_or_ge 1 n with h1 | h1
    · have hTn : tokT n c = Lib.decDigits n ++ [c] := by rw [tokT, if_pos h1]
      have hl := dec_len (show n < 18446744073709551616 by omega)
      have HD := Lib.hid (decimal_any n w hn)
      obtain ⟨Y, hY⟩ : ∃ Y, Y = txt (Lib.decDigits n) := ⟨_, rfl⟩
      rw [← hY] at HD
      have hYs : Y.size ≤ 64 := by rw [hY, txt_size]; exact hl
      have hYT : Y ++ T = txt (tokT n c) := by rw [hY, hT, txt_add, hTn]
      obtain ⟨Z, hZ⟩ : ∃ Z, Z = txt (tokT n c) := ⟨_, rfl⟩
      have HZ : Aside (Z = txt (tokT n c)) := hZ
      rw [← hZ] at hYT
      have hZs : Z.size ≤ 65 := by rw [← hYT, ByteArray.size_append]; omega
      have e1 : Aside (encS (P ++ [tokT n c]) = encS P ++ [.string Z]) := by show _ = _; rw [encS_append, HZ.out]; rfl
      clear hY hTn hl hT hZ
      go_enter Tryd.func35, Tryd.ntmps35
      go_wp2_with fail
      refine HD.out.mono ?_
      rintro e w1 ⟨rfl, hb1⟩
      have hz := hb1.size
      have hbk1 : w1.heap[br]? = some (.cells #[.slice va q vc] 80 (0, 0)) := by rw [hb1.block _ hbl]; exact hb
      have hO1 : w1.ownsRow (br + 1) 9 1 (.slice va q vc) q (encS P) := own_below hO hb1
      have d1 : w1.cell? ⟨br, 0, none⟩ = some (.slice va q vc) := Joins.cell_of_block hbk1 0
      have d2 : (w1.alloc (.cells #[.string Z] 9)).cell? ⟨br, 0, none⟩ = some (.slice va q vc) := Joins.cell_of_block (blk_alloc hbk1 _) 0
      go_wp2_with (at_builtin; refine wpList_append_lies _ rfl _ _ 80 rfl (br + 1) 9 i0 _ 1 16 Tryd.underlying80 hi hz0 hz1 hz2 rfl (by omega) (.slice va q vc) q (encS P) rfl (hO1.alloc _) ⟨w1.heap.size, 0, none⟩ 1 1 [.string Z] rfl rfl (news_alloc _ _ _ rfl) (by intro u hu; rw [List.mem_singleton.1 hu]; rfl) (by omega) (by unfold maxLen; omega) (by omega) (by simp; omega) (w1.heap.size + 1) (by simp) ?_; intro g cap1 w4 hown1 hgrow1 hat1 hlt1; have d := blk_grown hgrow1 (blk_alloc hbk1 _) (own_ne hO1 (by omega)); have d3 := Joins.cell_of_block d 0; have f1 := Joins.unfrozen_of_block d 0)
      go_end0
      refine ⟨rfl, ⟨.slice (some ⟨g, 0, none⟩) (q + 1) cap1, Joins.block_setCell d _, ?_⟩, (((hb1.mono (Nat.le_of_lt hbl)).alloc (by omega) _).grown hgrow1 (by simp; omega) (fun k hk => by have := (hO1.lt k hk).1; omega)).setCell (p := ⟨br, 0, none⟩) (Nat.le_refl _) _⟩
      unfold TextsOf
      rw [HTK.out, e1.out, List.length_append, ← HQ.out]
      exact ownsRow_setCell_other hown1 (own_ne (k := br) hown1 (by omega)).symm _
    · obtain rfl : n = 1 := by omega
      have e0 : T = txt (tokT 1 c) := by rw [hT, tokT, if_neg (by omega)]; rfl
      have e1 : Aside (encS (P ++ [tokT 1 c]) = encS P ++ [.string T]) := by show _ = _; rw [encS_append, e0]; rfl
      clear hT e0
      have d2 : (w.alloc (.cells #[.string T] 9)).cell? ⟨br, 0, none⟩ = some (.slice va q vc) := Joins.cell_of_block (blk_alloc hb _) 0
      go_enter Tryd.func35, Tryd.ntmps35
      go_wp2_with (at_builtin; refine wpList_append_lies _ rfl _ _ 80 rfl (br + 1) 9 i0 _ 1 16 Tryd.underlying80 hi hz0 hz1 hz2 rfl (by omega) (.slice va q vc) q (encS P) rfl (hO.alloc _) ⟨w.heap.size, 0, none⟩ 1 1 [.string T] rfl rfl (news_alloc _ _ _ rfl) (by intro u hu; rw [List.mem_singleton.1 hu]; rfl) (by omega) (by unfold maxLen; omega) (by omega) (by simp; omega) (w.heap.size + 1) (by simp) ?_; intro g cap1 w4 hown1 hgrow1 hat1 hlt1; have d := blk_grown hgrow1 (blk_alloc hb _) (own_ne hO (by omega)); have d3 := Joins.cell_of_block d 0; have f1 := Joins.unfrozen_of_block d 0)
      go_end0
      refine ⟨rfl, ⟨.slice (some ⟨g, 0, none⟩) (q + 1) cap1, Joins.block_setCell d _, ?_⟩, ((((Below.refl _ _).mono (Nat.le_of_lt hbl)).alloc (by omega) _).grown hgrow1 (by simp; omega) (fun k hk => by have := (hO.lt k hk).1; omega)).setCell (p := ⟨br, 0, none⟩) (Nat.le_refl _) _⟩
      unfold TextsOf
      rw [HTK.out, e1.out, List.length_append, ← HQ.out]
      exact ownsRow_setCell_other hown1 (own_ne (k := br) hown1 (by omega)).symm _
end Go.Proofs.YtdmamecfmfhlmaaDoor
