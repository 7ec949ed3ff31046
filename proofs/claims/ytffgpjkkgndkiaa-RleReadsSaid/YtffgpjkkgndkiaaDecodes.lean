/-
  rle.Decode: the cells and the rule of a text.
-/
import Derived.Test.YtffgpjkkgndkiaaScans
import Derived.Test.YtffgpjkkgndkiaaSkipMath
import Derived.Test.YtffgpjkkgndkiaaHeads
namespace Go.Proofs.Ytffgpjkkgndkiaa
set_option maxRecDepth 100000
open Go.RowKit

/-- A list keeps when a box beside it is filled. -/
theorem tight_set {W : World} {base B : Nat} {v : Value} {xs : List (Int × Int)} {x y : Value} (h : Tight base W v xs) (hb : W.heap[B]? = some (.cells #[x, y] 24 (0, 0))) (u u' : Value) : Tight base ((W.setCell ⟨B, 0, none⟩ u).setCell ⟨B, 1, none⟩ u').drew v xs := by
  rcases h with h | ⟨g, cap, sp, rfl, hh, h0, h1⟩
  · exact .inl h
  · have hne : g ≠ B := by
      rintro rfl
      unfold Held at hh
      rw [hb] at hh
      simp at hh
    exact .inr ⟨g, cap, sp, rfl, hh.keep (by
      show ((W.setCell ⟨B, 0, none⟩ u).setCell ⟨B, 1, none⟩ u').heap[g]? = _
      rw [Below.heap_setCell _ _ _ _ (by exact hne), Below.heap_setCell _ _ _ _ (by exact hne)]), h0, h1⟩
/-- A box filled, another made. -/
theorem box_store_alloc {W : World} {b : Nat} {x y : Value} {ty : TypeId} (h : W.heap[b]? = some (.cells #[x, y] ty (0, 0))) (u v : Value) (o : Obj) :
    (((W.setCell ⟨b, 0, none⟩ u).setCell ⟨b, 1, none⟩ v).alloc o).cell? ⟨b, 0, none⟩ = some u ∧ (((W.setCell ⟨b, 0, none⟩ u).setCell ⟨b, 1, none⟩ v).alloc o).cell? ⟨b, 1, none⟩ = some v := by
  have h2 := blk_alloc (Joins.block_setCell (Joins.block_setCell h (i := 0) u) (i := 1) v) o
  exact ⟨by rw [Joins.cell_of_block h2]; simp, by rw [Joins.cell_of_block h2]; simp⟩
set_option maxHeartbeats 4000000 in
theorem decode_any (l : List UInt8) (w : World) (hl : l.length ≤ 140737488351232) :
    Calls Try.prog 11 #[.string (txt l)] w (Decoded w (decodeF l)) := by
  obtain ⟨S, hS⟩ : ∃ S, S = txt l := ⟨_, rfl⟩
  have hsz : S.size = l.length := by rw [hS, txt_size]
  by_cases hlong : 20000 < l.length
  · have hf : decodeF l = (([], (0, 0)), 1) := by rw [decodeF, if_pos hlong]
    have HF := Lib.hid hf
    rw [← hS]
    obtain ⟨n, hn⟩ : ∃ n, n = l.length := ⟨_, rfl⟩
    rw [← hn] at hsz hlong hl
    have t1 : decide ((20000 : Int) < (n : Int)) = true := decide_eq_true (by omega)
    clear hf hS hn
    go_enter Try.func11, Try.ntmps11
    go_wp2_with fail
    refine bodyPost_ret (v := .tuple #[.slice none 0 0, .agg #[.int .i64 0, .int .i64 0], .int .i64 1]) (by simp [results, Try.results11, go_sem]) rfl (Decoded.no HF.out ((Below.refl _ _).alloc (Nat.le_refl _) _))
  · have hf : decodeF l = bodyF (skipG l.length l) := by rw [decodeF, if_neg hlong]
    have hf0 : Aside (decodeF l = bodyF (skipG l.length l)) := hf
    obtain ⟨n, hn⟩ : ∃ n, n = l.length := ⟨_, rfl⟩
    have t1 : decide ((20000 : Int) < (n : Int)) = false := decide_eq_false (by omega)
    rw [← hS]
    rw [← hn] at hsz
    have HN := Lib.hid hn
    have HS := Lib.hid hS
    have hlen : l.length ≤ 20000 := by omega
    clear hf hS hn hlong
    go_enter Try.func11, Try.ntmps11
    go_wp2_with fail
    have hb0 : (w.alloc (.cells #[.int .i64 0, .int .i64 0] 24)).heap[w.heap.size]? = some (.cells #[.int .i64 0, .int .i64 0] 24 (0, 0)) := blk_last w _ rfl
    have hB0 : Below w.heap.size w (w.alloc (.cells #[.int .i64 0, .int .i64 0] 24)) := (Below.refl _ _).alloc (Nat.le_refl _) _
    go_loopw [0] (fun s wr => ∃ (k : Nat) (M : List UInt8), s = .string (txt M) ∧ M.length ≤ k ∧ M.length ≤ 20000 ∧ Aside (decodeF l = bodyF (skipG k M)) ∧ wr.heap[w.heap.size]? = some (.cells #[.int .i64 0, .int .i64 0] 24 (0, 0)) ∧ Below w.heap.size w wr) (fun s _ => sizeS s)
    case atStart => exact ⟨l.length, l, by rw [HS.out], Nat.le_refl _, hlen, hf0, hb0, hB0⟩
    case round =>
      clear hb0 hB0 hf0
      obtain ⟨k, M, rfl, hk, hM, HF, hb, hB⟩ := hrel
      have HP := Lib.hid (fun W => hasPrefix_any M [35] W (by omega) (by decide))
      have HC := Lib.hid (fun W => cut_any M 10 W (by omega))
      cases hp : preB [35] M
      · have hsk := skipG_no hp k
        have HBF : Aside (decodeF l = bodyF M) := by show _ = _; rw [HF.out, hsk]
        rw [hp] at HP
        have hcl := cutAns_length M 10
        have hhd := fun W => head_any (cutAns M 10).1 W (by omega)
        have hca : cutAns M 10 = (match cutL 10 M with
          | none => (M, [], false)
          | some p => (p.1, p.2, true)) := rfl
        obtain ⟨⟨F, C, ok⟩, hF⟩ : ∃ R, R = cutAns M 10 := ⟨_, rfl⟩
        rw [← hF] at HC hhd hcl
        dsimp only at HC hhd hcl
        obtain ⟨T, hT⟩ : ∃ T, T = txt M := ⟨_, rfl⟩
        obtain ⟨T1, hT1⟩ : ∃ T, T = txt F := ⟨_, rfl⟩
        obtain ⟨T2, hT2⟩ : ∃ T, T = txt C := ⟨_, rfl⟩
        rw [← hT] at HP HC ⊢
        rw [← hT1] at HC hhd
        rw [← hT2] at HC
        have HHD := Lib.hid hhd
        have HT2 := Lib.hid hT2
        have hbad : (ok = false ∨ headF F = none) → decodeF l = (([], (0, 0)), 2) := fun h => by
          rw [HBF.out, bodyF]
          cases hc : cutL 10 M with
          | none => rfl
          | some p =>
            rw [hc] at hca
            have e := hF.trans hca
            simp only [Prod.mk.injEq] at e
            rcases h with h | h
            · rw [h] at e; exact absurd e.2.2 (by simp)
            · rw [e.1] at h
              simp [h]
        have hgood : ∀ h, ok = true → headF F = some h → decodeF l = if (scanG h.1.1 h.1.2 (C.length + 1) C 0 0 []).2 = 0 then (((scanG h.1.1 h.1.2 (C.length + 1) C 0 0 []).1, h.2), 0) else (([], (0, 0)), (scanG h.1.1 h.1.2 (C.length + 1) C 0 0 []).2) := fun h h1 h2 => by
          rw [HBF.out, bodyF]
          cases hc : cutL 10 M with
          | none =>
            rw [hc] at hca
            have e := hF.trans hca
            simp only [Prod.mk.injEq] at e
            rw [h1] at e
            exact absurd e.2.2 (by simp)
          | some p =>
            rw [hc] at hca
            have e := hF.trans hca
            simp only [Prod.mk.injEq] at e
            rw [e.1] at h2
            simp only [h2, ← e.2.1]
        have HBAD := Lib.hid hbad
        have HGOOD := Lib.hid hgood
        clear hT hT1 hT2 hca hF hbad hgood hp hsk hhd
        go_wp2_with fail
        refine (HP.out _).mono ?_
        rintro e W1 ⟨rfl, hW⟩
        subst hW
        go_wp2_with fail
        refine (HC.out _).mono ?_
        rintro e W2 ⟨rfl, hx2⟩
        have hb2 := (hx2.block _ (lt_of_block hb)).trans hb
        have hB2 := hB.trans (hx2.mono hB.size)
        clear hx2 HP HC
        go_wp2_with fail
        refine (HHD.out _).mono ?_
        rintro e W3 ⟨ha, hbb, hc, hd, g, rfl, hx3, hcase⟩
        have hb3 := (hx3.block _ (lt_of_block hb2)).trans hb2
        have hB3 := hB2.trans (hx3.mono hB2.size)
        clear hx3 HHD hb hB hb2 hB2
        have hlt := lt_of_block hb3
        have hle : w.heap.size ≤ w.heap.size := Nat.le_refl _
        obtain ⟨B, hBe⟩ : ∃ b, b = w.heap.size := ⟨_, rfl⟩
        have hBw : w.heap.size ≤ B := by omega
        rw [← hBe] at hb3 hlt ⊢
        have z0 : W3.cell? ⟨B, 0, none⟩ = some (.int .i64 0) := Joins.cell_of_block hb3 0
        have z1 : W3.cell? ⟨B, 1, none⟩ = some (.int .i64 0) := Joins.cell_of_block hb3 1
        have f0 : W3.frozen? ⟨B, 0, none⟩ = false := Joins.unfrozen_of_block hb3 0
        have f1 : W3.frozen? ⟨B, 1, none⟩ = false := Joins.unfrozen_of_block hb3 1
        obtain ⟨p0, p1⟩ := box_store_alloc (W := W3) hb3 (.int .i64 0) (.int .i64 0) (.cells #[.int .i64 hc, .int .i64 hd] 24)
        have HBF3 := Lib.hid (((hB3.setCell (p := ⟨B, 0, none⟩) hBw (.int .i64 0)).setCell (p := ⟨B, 1, none⟩) hBw (.int .i64 0)).alloc (by simpa using hB3.size) (.cells #[.int .i64 hc, .int .i64 hd] 24))
        clear hBe hle
        rcases hcase with ⟨hno, rfl⟩ | ⟨n', m', r', hs, rfl, rfl, rfl, rfl, rfl⟩
        · have HD := Lib.hid (HBAD.out (.inr hno))
          clear hno
          cases ok <;>
          · go_wp2_with fail
            refine bodyPost_ret (v := .tuple #[.slice none 0 0, .agg #[.int .i64 0, .int .i64 0], .int .i64 2]) (by simp [results, Try.results11, go_sem, p0, p1]) rfl (Decoded.no HD.out HBF3.out)
        · cases ok
          · have HD := Lib.hid (HBAD.out (.inl rfl))
            clear hs
            go_wp2_with fail
            refine bodyPost_ret (v := .tuple #[.slice none 0 0, .agg #[.int .i64 0, .int .i64 0], .int .i64 2]) (by simp [results, Try.results11, go_sem, p0, p1]) rfl (Decoded.no HD.out HBF3.out)
          · have hlim := headF_lt hs
            have HD := Lib.hid (HGOOD.out _ rfl hs)
            have hsc := scan_any C n' m' (W3.alloc (.cells #[.int .i64 r'.1, .int .i64 r'.2] 24)) (by omega) hlim.1 hlim.2
            rw [← HT2.out] at hsc
            have hbr : (W3.alloc (.cells #[.int .i64 r'.1, .int .i64 r'.2] 24)).heap[W3.heap.size]? = some (.cells #[.int .i64 r'.1, .int .i64 r'.2] 24 (0, 0)) := blk_last W3 _ rfl
            have hb4 := blk_alloc hb3 (.cells #[.int .i64 r'.1, .int .i64 r'.2] 24)
            have hB4 := hB3.alloc hB3.size (.cells #[.int .i64 r'.1, .int .i64 r'.2] 24)
            dsimp only at HD
            unfold ScanAs at hsc
            obtain ⟨⟨xs, er⟩, hX⟩ : ∃ R, R = scanG n' m' (C.length + 1) C 0 0 [] := ⟨_, rfl⟩
            rw [← hX] at hsc HD
            dsimp only at HD hsc
            have HSC := Lib.hid hsc
            obtain ⟨r1, r2⟩ := r'
            dsimp only at HSC hbr hb4 hB4 HD HBF3 ⊢
            clear hs hlim hsc hX z0 z1 f0 f1 p0 p1 HBF3 HBAD HGOOD
            go_wp2_with fail
            refine HSC.out.mono ?_
            rintro e W5 ⟨v5, rfl, hb5, ht5⟩
            have hbr5 := (hb5.block _ (lt_of_block hbr)).trans hbr
            have hbB5 := (hb5.block _ (lt_of_block hb4)).trans hb4
            have hB5 := hB4.trans (hb5.mono hB4.size)
            have HT5 := Lib.hid (ht5.mono hB4.size)
            obtain ⟨R, hR⟩ : ∃ R, R = W3.heap.size := ⟨_, rfl⟩
            have hBR : B < R := by omega
            rw [← hR] at hbr5 ⊢
            have z0 : W5.cell? ⟨B, 0, none⟩ = some (.int .i64 0) := Joins.cell_of_block hbB5 0
            have z1 : W5.cell? ⟨B, 1, none⟩ = some (.int .i64 0) := Joins.cell_of_block hbB5 1
            have f0 : W5.frozen? ⟨B, 0, none⟩ = false := Joins.unfrozen_of_block hbB5 0
            have f1 : W5.frozen? ⟨B, 1, none⟩ = false := Joins.unfrozen_of_block hbB5 1
            have c0 : W5.cell? ⟨R, 0, none⟩ = some (.int .i64 r1) := Joins.cell_of_block hbr5 0
            have c1 : W5.cell? ⟨R, 1, none⟩ = some (.int .i64 r2) := Joins.cell_of_block hbr5 1
            clear hb5 ht5 hbr hb4 HSC hR
            by_cases her : er = 0
            · subst her
              have HD2 : Aside (decodeF l = ((xs, (r1, r2)), 0)) := by show _ = _; rw [HD.out, if_pos rfl]
              obtain ⟨p0, p1⟩ := box_store (W := W5) hbB5 (.int .i64 r1) (.int .i64 r2)
              have HBF5 := Lib.hid (((hB5.setCell (p := ⟨B, 0, none⟩) hBw (.int .i64 r1)).setCell (p := ⟨B, 1, none⟩) hBw (.int .i64 r2)).drew)
              have HKT := Lib.hid (fun (hb : Below W5.heap.size W5 W5) => hb)
              have d0 : W5.drew.cell? ⟨R, 0, none⟩ = some (.int .i64 r1) := c0
              have d1 : W5.drew.cell? ⟨R, 1, none⟩ = some (.int .i64 r2) := c1
              have y0 : W5.drew.cell? ⟨B, 0, none⟩ = some (.int .i64 0) := z0
              have y1 : W5.drew.cell? ⟨B, 1, none⟩ = some (.int .i64 0) := z1
              have k0 : W5.drew.frozen? ⟨B, 0, none⟩ = false := f0
              have k1 : W5.drew.frozen? ⟨B, 1, none⟩ = false := f1
              obtain ⟨a5, c5, rfl, _, _⟩ := HT5.out.form
              have HTF := Lib.hid (tight_set HT5.out hbB5 (.int .i64 r1) (.int .i64 r2))
              obtain ⟨xl, hxl⟩ : ∃ xl, xl = xs.length := ⟨_, rfl⟩
              rw [← hxl] at HTF ⊢
              clear hbB5 hbr5 hB5 hB4 hB3 hb3 HT5 hxl
              go_wp2_with fail
              go_region
              go_wp2_with fail
              refine bodyPost_ret (v := .tuple #[.slice a5 xl c5, .agg #[.int .i64 r1, .int .i64 r2], .int .i64 0]) (by simp [results, Try.results11, go_sem, p0, p1]) rfl ⟨.slice a5 xl c5, by rw [HD2.out], HBF5.out, by rw [HD2.out]; exact HTF.out⟩
            · have hz : (er == 0) = false := by simp [her]
              have HD2 : Aside (decodeF l = (([], (0, 0)), er)) := by show _ = _; rw [HD.out, if_neg her]
              obtain ⟨p0, p1⟩ := box_store (W := W5) hbB5 (.int .i64 0) (.int .i64 0)
              have HBF5 := Lib.hid ((hB5.setCell (p := ⟨B, 0, none⟩) hBw (.int .i64 0)).setCell (p := ⟨B, 1, none⟩) hBw (.int .i64 0))
              clear hbB5 hbr5 hB5 hB4 hB3 hb3 HT5
              go_wp2_with fail
              refine bodyPost_ret (v := .tuple #[.slice none 0 0, .agg #[.int .i64 0, .int .i64 0], .int .i64 er]) (by simp [results, Try.results11, go_sem, p0, p1]) rfl (Decoded.no HD2.out HBF5.out)
      · obtain ⟨k', rfl⟩ : ∃ k', k = k' + 1 := ⟨k - 1, by obtain ⟨r, rfl⟩ := (pre35 M).1 hp; simp at hk; omega⟩
        have hsk := skipG_yes k' hp
        have hsh := cutAns_shorter hp
        rw [hp] at HP
        obtain ⟨⟨F, C, ok⟩, hF⟩ : ∃ R, R = cutAns M 10 := ⟨_, rfl⟩
        rw [← hF] at HC hsk hsh
        dsimp only at HC hsk hsh
        have HF2 : Aside (decodeF l = bodyF (skipG k' C)) := by show _ = _; rw [HF.out, hsk]
        obtain ⟨T, hT⟩ : ∃ T, T = txt M := ⟨_, rfl⟩
        obtain ⟨T1, hT1⟩ : ∃ T, T = txt F := ⟨_, rfl⟩
        obtain ⟨T2, hT2⟩ : ∃ T, T = txt C := ⟨_, rfl⟩
        have hsT : T.size = M.length := by rw [hT, txt_size]
        have hsT2 : T2.size = C.length := by rw [hT2, txt_size]
        rw [← hT] at HP HC ⊢
        rw [← hT1, ← hT2] at HC
        have HT2 := Lib.hid hT2
        have HSZ := Lib.hid (show T2.size < T.size by omega)
        clear hT hT1 hT2 hF hp hsk hsT hsT2
        go_wp2_with fail
        refine (HP.out _).mono ?_
        rintro e W1 ⟨rfl, hW⟩
        subst hW
        go_wp2_with fail
        refine (HC.out _).mono ?_
        rintro e W2 ⟨rfl, hx2⟩
        have hb2 := (hx2.block _ (lt_of_block hb)).trans hb
        have hB2 := hB.trans (hx2.mono hB.size)
        clear hx2 HP HC
        go_wp2_with fail
        exact ⟨⟨k', C, by rw [HT2.out], by omega, by omega, HF2, hb2, hB2⟩, by simp [sizeS]; exact HSZ.out⟩
end Go.Proofs.Ytffgpjkkgndkiaa
