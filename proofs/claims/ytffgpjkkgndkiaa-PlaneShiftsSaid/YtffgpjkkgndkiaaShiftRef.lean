/-
  The document's Shift.
-/
import Derived.Test.YtffgpjkkgndkiaaShifts
namespace Go.Proofs.Ytffgpjkkgndkiaa
set_option maxRecDepth 100000
open Go.RowKit

set_option maxHeartbeats 2000000 in
theorem refShift_any (zs : List (Int × Int)) (dx dy : Int) (a : Option Addr) (cap : Nat) (w : World) (hs : Sl w 2 16 a zs.length cap (zs.flatMap encCell)) :
    Calls Try.prog 36 #[.slice a zs.length cap, .int .i64 dx, .int .i64 dy] w (Shifted w zs dx dy) := by
  have hwide := hs.wide
  obtain ⟨i0, hi, hz0, hz1, hz2⟩ := info_parts infoCell
  obtain ⟨⟨r, er⟩, hR⟩ : ∃ R, R = tidyF zs := ⟨_, rfl⟩
  have hrl := tidy_len hR
  have HR := Lib.hid hR
  clear hR
  go_enter Try.func36, Try.ntmps36
  go_wp2_with fail
  refine (refTidy_any zs a cap _ hs).mono ?_
  intro e w1 h1
  obtain ⟨a1, c1, rfl, hb1, ht1⟩ := tidied_of HR.out h1
  have HT := Lib.hid ht1
  have hb1s := hb1.size
  clear h1 ht1
  by_cases he : er = 0
  · subst he
    have wide : wideF dx = true ∨ wideF dy = true → shiftF zs dx dy = ([], 3) := shift_wide HR.out
    have HW := Lib.hid wide
    clear wide
    obtain ⟨n, hN⟩ : ∃ n, n = r.length := ⟨_, rfl⟩
    rw [← hN] at HT hrl ⊢
    have HN := Lib.hid hN
    clear hN
    go_wp2_with fail
    go_loopw [27] (fun i wr => ∃ k : Nat, i = .int .i64 k ∧ k ≤ 2 ∧ Aside (0 < k → wideF dx = false) ∧ Aside (1 < k → wideF dy = false) ∧ Below w1.heap.size w1 wr ∧ wr.heap[w1.heap.size]? = some (.cells #[.int .i64 dx, .int .i64 dy] 3 (0, 0))) (fun i _ => 2 - (intOf i).toNat)
    case atStart => exact ⟨0, rfl, by omega, (fun h => by omega), (fun h => by omega), (Below.refl _ _).alloc (Nat.le_refl _) _, blk_last w1 _ rfl⟩
    case round =>
      obtain ⟨k, rfl, hk, H1, H2, hB, hbox⟩ := hrel
      have hB' := hb1.trans (hB.mono hb1s)
      have d0 : wr.cell? ⟨w1.heap.size, 0, none⟩ = some (.int .i64 dx) := Joins.cell_of_block hbox 0
      have d1 : wr.cell? ⟨w1.heap.size, 1, none⟩ = some (.int .i64 dy) := Joins.cell_of_block hbox 1
      rcases (show k = 0 ∨ k = 1 ∨ k = 2 by omega) with rfl | rfl | rfl
      · rcases (show dx ≤ -2199023255552 ∨ (-2199023255552 < dx ∧ 2199023255552 ≤ dx) ∨ (-2199023255552 < dx ∧ dx < 2199023255552) by omega) with h | ⟨h, h'⟩ | ⟨h, h'⟩
        · have hx : wideF dx = true := by simp [wideF]; omega
          go_wp2_with fail
          refine bodyPost_ret (v := .tuple #[.slice none 0 0, .int .i64 3]) (by simp [results, Try.results36, go_sem]) rfl ⟨.slice none 0 0, by rw [HW.out (.inl hx)], hB', by rw [HW.out (.inl hx)]; exact Tight.nil _ _⟩
        · have hx : wideF dx = true := by simp [wideF]; omega
          go_wp2_with fail
          refine bodyPost_ret (v := .tuple #[.slice none 0 0, .int .i64 3]) (by simp [results, Try.results36, go_sem]) rfl ⟨.slice none 0 0, by rw [HW.out (.inl hx)], hB', by rw [HW.out (.inl hx)]; exact Tight.nil _ _⟩
        · have hx : wideF dx = false := by simp [wideF]; omega
          have HX := Lib.hid hx
          clear hx
          go_wp2_with fail
          exact ⟨⟨1, rfl, by omega, (fun _ => HX.out), (fun h => by omega), hB, hbox⟩, by simp [intOf]⟩
      · rcases (show dy ≤ -2199023255552 ∨ (-2199023255552 < dy ∧ 2199023255552 ≤ dy) ∨ (-2199023255552 < dy ∧ dy < 2199023255552) by omega) with h | ⟨h, h'⟩ | ⟨h, h'⟩
        · have hx : wideF dy = true := by simp [wideF]; omega
          go_wp2_with fail
          refine bodyPost_ret (v := .tuple #[.slice none 0 0, .int .i64 3]) (by simp [results, Try.results36, go_sem]) rfl ⟨.slice none 0 0, by rw [HW.out (.inr hx)], hB', by rw [HW.out (.inr hx)]; exact Tight.nil _ _⟩
        · have hx : wideF dy = true := by simp [wideF]; omega
          go_wp2_with fail
          refine bodyPost_ret (v := .tuple #[.slice none 0 0, .int .i64 3]) (by simp [results, Try.results36, go_sem]) rfl ⟨.slice none 0 0, by rw [HW.out (.inr hx)], hB', by rw [HW.out (.inr hx)]; exact Tight.nil _ _⟩
        · have hx : wideF dy = false := by simp [wideF]; omega
          have HX := Lib.hid hx
          clear hx
          go_wp2_with fail
          exact ⟨⟨2, rfl, by omega, (fun _ => H1.out (by omega)), (fun h => HX.out), hB, hbox⟩, by simp [intOf]⟩
      · have HX := Lib.hid (H1.out (by omega))
        have HY := Lib.hid (H2.out (by omega))
        have bx : -2199023255552 < dx ∧ dx < 2199023255552 := by have := HX.out; simp [wideF] at this; omega
        have by' : -2199023255552 < dy ∧ dy < 2199023255552 := by have := HY.out; simp [wideF] at this; omega
        obtain ⟨bx1, bx2⟩ := bx
        obtain ⟨by1, by2⟩ := by'
        have hTW := Lib.hid (HT.out.below hB)
        clear H1 H2 HT d0 d1 hbox
        have hzr := hB'.size
        obtain ⟨V, hV⟩ : ∃ V, V = wr := ⟨_, rfl⟩
        subst hV
        rw [show ((2 : Nat) : Int) = 2 from rfl]
        go_wp2_with fail
        go_loopw [12, 40] (fun o i wr2 => ∃ j : Nat, i = .int .i64 j ∧ j ≤ n ∧ Aside (((r.take j).map (moveC dx dy)).any farC = false) ∧ Below w.heap.size w wr2 ∧ Below V.heap.size V wr2 ∧ wr2.ownsRow V.heap.size 72 2 o j (((r.take j).map (moveC dx dy)).flatMap encCell)) (fun _ i _ => n - (intOf i).toNat)
        case atStart => exact ⟨0, rfl, Nat.zero_le _, rfl, hB', Below.refl _ _, World.ownsRow_nil _ _ _ _⟩
        case round =>
          obtain ⟨j, rfl, hj, HF, hB2, hBr, hO⟩ := hrel
          have hBrs := hBr.size
          by_cases hlt : j < n
          · obtain ⟨c, hc⟩ : ∃ c, r[j]? = some c := ⟨r[j]'(by have := HN.out; omega), by simp⟩
            obtain ⟨n1, n2, n3, n4⟩ := tidy_near HR.out (List.mem_of_getElem? hc)
            have hsl : Sl wr 2 16 a1 n c1 (r.flatMap encCell) := by
              have hT := hTW.out.below hBr
              rw [HN.out] at hT ⊢
              exact hT.sl (by rw [← HN.out]; omega)
            obtain ⟨b, o, rfl, hrow⟩ := hsl.row (by omega)
            have hb := hsl.lt (by omega) (by omega)
            have e0 := hrow _ _ (flat_nth hc).1
            have e1 : wr.cell? ⟨b, o + j * 2 + 1, none⟩ = some (.int .i64 c.2) := by have := hrow _ _ (flat_nth hc).2; rw [← Nat.add_assoc] at this; exact this
            have HC := Lib.hid hc
            obtain ⟨va, vc, rfl⟩ := own_form hO
            have HO := Lib.hid hO
            clear hc hrow hO hsl
            obtain ⟨x, y⟩ := c
            dsimp only at e0 e1 n1 n2 n3 n4
            have hfar : farF (x + dx) = true ∨ farF (y + dy) = true → shiftF zs dx dy = ([], 3) := fun h => shift_far HR.out HX.out HY.out (List.any_eq_true.2 ⟨moveC dx dy (x, y), List.mem_map.2 ⟨_, List.mem_of_getElem? HC.out, rfl⟩, by simpa [farC, moveC] using h⟩)
            have HFR := Lib.hid hfar
            clear hfar
            have hbx := hB2.size
            by_cases hx : farF (x + dx) = true
            · go_wp2_with ((go_at_call 84; refine (far_any _ _).mono ?_; rintro e w3 ⟨rfl, rfl⟩))
              refine bodyPost_ret (v := .tuple #[.slice none 0 0, .int .i64 3]) (by simp [results, Try.results36, go_sem]) rfl ⟨.slice none 0 0, by rw [HFR.out (.inl hx)], ?_, by rw [HFR.out (.inl hx)]; exact Tight.nil _ _⟩
              exact hB2.alloc hbx _
            · have hx : farF (x + dx) = false := by simpa using hx
              by_cases hy : farF (y + dy) = true
              · go_wp2_with ((go_at_call 84; refine (far_any _ _).mono ?_; rintro e w3 ⟨rfl, rfl⟩))
                refine bodyPost_ret (v := .tuple #[.slice none 0 0, .int .i64 3]) (by simp [results, Try.results36, go_sem]) rfl ⟨.slice none 0 0, by rw [HFR.out (.inr hy)], ?_, by rw [HFR.out (.inr hy)]; exact Tight.nil _ _⟩
                exact hB2.alloc hbx _
              · have hy : farF (y + dy) = false := by simpa using hy
                go_wp2_with (first | (go_at_call 84; refine (far_any _ _).mono ?_; rintro e w3 ⟨rfl, rfl⟩) | (at_builtin; refine wpList_append_lies _ rfl _ _ 22 rfl V.heap.size 72 i0 _ 2 16 Try.underlying22 hi hz0 hz1 hz2 rfl (by omega) (.slice va j vc) j (((r.take j).map (moveC dx dy)).flatMap encCell) rfl (HO.out.alloc _ |>.alloc _) ⟨wr.heap.size + 1, 0, none⟩ 1 1 [.int .i64 (x + dx), .int .i64 (y + dy)] rfl rfl (news_alloc _ _ _ (by simp)) (by simp [Value.oneCell']) (by omega) (by unfold maxLen; omega) (by omega) (by simp; omega) (wr.heap.size + 2) (by simp) ?_; intro g cap1 w4 hown1 hgrow1 hat1 hlt1))
                have hlt := HO.out.lt
                refine ⟨⟨j + 1, by go_num, by omega, ?_, ?_, ?_, ?_⟩, by simp [intOf]; omega⟩
                · show _ = _
                  rw [List.take_add_one, HC.out, List.map_append, List.any_append, HF.out]
                  simp [moveC, farC, hx, hy]
                · exact ((hB2.alloc hbx _).alloc (by simp; omega) _).grown hgrow1 (by simp; omega) (fun q hq => by have := (hlt q hq).1; omega)
                · exact ((hBr.alloc hBrs _).alloc (by simp; omega) _).grown hgrow1 (by simp; omega) (fun q hq => (hlt q hq).1)
                · have e : ((r.take (j + 1)).map (moveC dx dy)).flatMap encCell = ((r.take j).map (moveC dx dy)).flatMap encCell ++ [.int .i64 (x + dx), .int .i64 (y + dy)] := by
                    rw [List.take_add_one, HC.out, List.map_append, List.flatMap_append]
                    simp [moveC, encCell]
                  rw [e]
                  exact hown1
          · obtain rfl : j = n := by omega
            have hall : (r.take j).map (moveC dx dy) = r.map (moveC dx dy) := by rw [HN.out, List.take_length]
            have hf := HF.out
            rw [hall] at hf hO
            have hres := shift_ok HR.out HX.out HY.out hf
            have HE := Lib.hid hres
            obtain ⟨va, vc, rfl⟩ := own_form hO
            have hT : Tight V.heap.size wr (.slice va j vc) (r.map (moveC dx dy)) := by
              refine Tight.of_own ?_
              rw [List.length_map, ← HN.out]
              exact hO
            have HTT := Lib.hid hT
            clear hT hO hres hf hall
            go_wp2_with fail
            refine bodyPost_ret (v := .tuple #[.slice va j vc, .int .i64 0]) (by simp [results, Try.results36, go_sem]) rfl ⟨.slice va j vc, by rw [HE.out], hB2, by rw [HE.out]; exact HTT.out.mono hzr⟩
  · have hres := shift_err (dx := dx) (dy := dy) HR.out he
    have HE := Lib.hid hres
    clear hres
    go_wp2_with fail
    refine bodyPost_ret (v := .tuple #[.slice none 0 0, .int .i64 er]) (by simp [results, Try.results36, go_sem]) rfl ⟨.slice none 0 0, by rw [HE.out], hb1, by rw [HE.out]; exact Tight.nil _ _⟩
end Go.Proofs.Ytffgpjkkgndkiaa
