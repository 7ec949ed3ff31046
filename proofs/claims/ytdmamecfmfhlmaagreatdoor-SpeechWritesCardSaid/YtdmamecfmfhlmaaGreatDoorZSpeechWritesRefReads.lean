/-
  The document's ReadRule: the rule of a text.
-/
import Derived.Test.YtdmamecfmfhlmaaGreatDoorZSpeechWrites42
namespace Go.Proofs.YtdmamecfmfhlmaaGreatDoor
set_option maxRecDepth 100000
open Go.RowKit

/-- The last digit as the document holds it (a byte, or -1). -/
def LastIs (la last : Int) : Prop := (la = -1 ∧ last = -1) ∨ (0 ≤ la ∧ la ≤ 8 ∧ last = 48 + la)
theorem wrap_small {z : Int} (h0 : 0 ≤ z) (h1 : z < 4096) : wrap64 z = z := by
  simp only [wrap64]; omega
theorem dig_step {la last : Int} {a x : Nat} (h1 : LastIs la last) (h2 : a < 2 ^ (la + 1).toNat) (d1 : 48 ≤ x) (d2 : x ≤ 56) (d3 : last < (x : Int)) :
    a < 2 ^ (x - 48) ∧ wrap64 ((a : Int) + wrap64 (2 ^ (x - 48))) = ((a + 2 ^ (x - 48) : Nat) : Int) ∧ a + 2 ^ (x - 48) < 2 ^ (((x : Int) - 48) + 1).toNat ∧ LastIs ((x : Int) - 48) x := by
  have e1 : (2 : Nat) ^ (la + 1).toNat ≤ 2 ^ (x - 48) := Nat.pow_le_pow_right (by omega) (by rcases h1 with h | h <;> omega)
  have e2 : (2 : Nat) ^ (x - 48) ≤ 2 ^ 8 := Nat.pow_le_pow_right (by omega) (by omega)
  have e3 : (((x : Int) - 48) + 1).toNat = (x - 48) + 1 := by omega
  have e4 : (2 : Nat) ^ 8 = 256 := by decide
  have e5 : ((2 : Int) ^ (x - 48)) = ((2 ^ (x - 48) : Nat) : Int) := by simp
  refine ⟨by omega, ?_, ?_, .inr ⟨by omega, by omega, by omega⟩⟩
  · rw [wrap_bit (by omega), e5, wrap_small (by omega) (by omega)]; simp
  · rw [e3, Nat.pow_succ]; omega
theorem no_dig {la last : Int} {x : Nat} (h1 : LastIs la last) (h : ¬ (48 ≤ x ∧ x ≤ 56 ∧ last < (x : Int))) : ¬ (48 ≤ x ∧ x ≤ 56 ∧ la < (x : Int) - 48) := by
  rcases h1 with h1 | h1 <;> omega
def St0 (l : List UInt8) (k : Nat) (last m0 m1 : Int) : Prop :=
  1 ≤ k ∧ m1 = 0 ∧ ∃ (la : Int) (a : Nat), LastIs la last ∧ m0 = a ∧ a < 2 ^ (la + 1).toNat ∧ readF l = readT (maskF (l.drop k) la m0).1 (maskF (l.drop k) la m0).2
def St1 (l : List UInt8) (k : Nat) (last m0 m1 : Int) : Prop :=
  1 ≤ k ∧ ∃ (la : Int) (a b : Nat), LastIs la last ∧ m1 = a ∧ a < 2 ^ (la + 1).toNat ∧ m0 = b ∧ b < 512 ∧ readF l = readE m0 (maskF (l.drop k) la m1)
def St (l : List UInt8) (k : Nat) (part last m0 m1 : Int) : Prop :=
  (part = -1 ∧ k = 0 ∧ last = -1 ∧ m0 = 0 ∧ m1 = 0) ∨ (part = 0 ∧ St0 l k last m0 m1) ∨ (part = 1 ∧ St1 l k last m0 m1)
structure RdInv (w : World) (m0 m1 : Int) (wr : World) : Prop where
  below : Below w.heap.size w wr
  b0 : wr.heap[w.heap.size]? = some (.cells #[.int .i64 0, .int .i64 0] 23 (0, 0))
  b1 : wr.heap[w.heap.size + 1]? = some (.cells #[.int .i64 m0, .int .i64 m1] 71 (0, 0))

set_option maxRecDepth 100000 in
set_option maxHeartbeats 4000000 in
theorem refRead_any (l : List UInt8) (w : World) (hl : l.length ≤ 140737488351232) :
    Calls Tryz.prog 32 #[.string (txt l)] w (ReadAs w (readF l)) := by
  obtain ⟨n, hn⟩ : ∃ n, n = l.length := ⟨_, rfl⟩
  obtain ⟨S, hS⟩ : ∃ S, S = txt l := ⟨_, rfl⟩
  have s4 : S.size = n := by rw [hS, txt_size, hn]
  rw [← hn] at hl
  rw [← hS]
  have HS := Lib.hid hS
  have HN := Lib.hid hn
  clear hS hn
  go_enter Tryz.func32, Tryz.ntmps32
  go_wp2_with fail
  go_loopw [5, 6, 7] (fun p la i wr => ∃ (part last : Int) (k : Nat) (m0 m1 : Int), p = .int .i64 part ∧ la = .int .i64 last ∧ i = .int .i64 (k : Nat) ∧ k ≤ n ∧ St l k part last m0 m1 ∧ RdInv w m0 m1 wr) (fun _ _ i _ => n - (intOf i).toNat)
  case atStart =>
    exact ⟨-1, -1, 0, 0, 0, rfl, rfl, rfl, Nat.zero_le _, .inl ⟨rfl, rfl, rfl, rfl, rfl⟩, ((Below.refl _ _).alloc (Nat.le_refl _) _).alloc (by simp) _, blk_alloc (blk_last w _ rfl) _, blk_last _ _ (by simp)⟩
  case round =>
    obtain ⟨part, last, k, m0, m1, rfl, rfl, rfl, hk, hst, hI⟩ := hrel
    have p0 : wr.cell? ⟨w.heap.size, 0, none⟩ = some (.int .i64 0) := Joins.cell_of_block hI.b0 0
    have p1 : wr.cell? ⟨w.heap.size, 1, none⟩ = some (.int .i64 0) := Joins.cell_of_block hI.b0 1
    have f0 : wr.frozen? ⟨w.heap.size, 0, none⟩ = false := Joins.unfrozen_of_block hI.b0 0
    have f1 : wr.frozen? ⟨w.heap.size, 1, none⟩ = false := Joins.unfrozen_of_block hI.b0 1
    have q0 : wr.cell? ⟨w.heap.size + 1, 0, none⟩ = some (.int .i64 m0) := Joins.cell_of_block hI.b1 0
    have q1 : wr.cell? ⟨w.heap.size + 1, 1, none⟩ = some (.int .i64 m1) := Joins.cell_of_block hI.b1 1
    have g0 : wr.frozen? ⟨w.heap.size + 1, 0, none⟩ = false := Joins.unfrozen_of_block hI.b1 0
    have g1 : wr.frozen? ⟨w.heap.size + 1, 1, none⟩ = false := Joins.unfrozen_of_block hI.b1 1
    by_cases hlt : k < n
    · have hkl : k < l.length := by have := HN.out; omega
      obtain ⟨c, r, hcr⟩ : ∃ c r, l.drop k = c :: r := ⟨l[k], l.drop (k + 1), List.drop_eq_getElem_cons hkl⟩
      have hks : k < S.size := by omega
      have hkc : l[k]? = some c := by
        have h := congrArg (fun z : List UInt8 => z[0]?) hcr
        simpa [List.getElem?_drop] using h
      have hr : l.drop (k + 1) = r := by
        have h := congrArg (List.drop 1) hcr
        simpa [List.drop_drop] using h
      obtain ⟨x, hx⟩ : ∃ x, x = c.toNat := ⟨_, rfl⟩
      have s6 : S[k].toNat = x := by
        have h : S[k] = c := by
          have e : S.data.toList[k]? = some c := by rw [HS.out, txt_data]; exact hkc
          have e2 : S.data[k] = c := by simpa [hks] using e
          exact e2
        rw [h, hx]
      have hx8 : x < 256 := by have := c.toNat_lt; omega
      have i1 : (k : Int) < (n : Int) := by omega
      have i0 : (0 : Int) ≤ (k : Int) := by omega
      have HX := Lib.hid hx
      have HC := Lib.hid hcr
      have HR := Lib.hid hr
      clear hx hcr hr hkc hkl
      rcases hst with ⟨rfl, rfl, rfl, rfl, rfl⟩ | ⟨rfl, h⟩ | ⟨rfl, h⟩
      · by_cases h66 : x = 66
        · subst h66
          go_wp2_with fail
          refine ⟨⟨0, -1, 1, 0, 0, rfl, rfl, rfl, by omega, .inr (.inl ⟨rfl, Nat.le_refl _, rfl, -1, 0, .inl ⟨rfl, rfl⟩, rfl, by decide, ?_⟩), hI⟩, by simp [intOf]; omega⟩
          have hx := HX.out
          rw [show l = c :: r from HC.out, readF, if_pos (by omega)]
          rfl
        · have h66' : ¬ (x : Int) = 66 := by omega
          go_wp2_with fail
          all_goals
            refine bodyPost_ret (v := .tuple #[.agg #[.int .i64 0, .int .i64 0], .int .i64 2]) (by simp [results, Tryz.results32, go_sem, p0, p1]) rfl ⟨?_, (hI.below.setCell (by simp) _).setCell (by simp) _⟩
            have hx := HX.out
            rw [show l = c :: r from HC.out, readF, if_neg (by omega)]
      · obtain ⟨h1k, rfl, la, a, h1, rfl, h2, h4⟩ := h
        have H4 := Lib.hid h4
        have H1 := Lib.hid h1
        clear h4 h1
        have hk0 : ¬ (k : Int) = 0 := by omega
        by_cases h47 : x = 47
        · subst h47
          have hst : maskF (c :: r) la a = ((a : Int), c :: r) := maskF_stop r la a (by have hx := HX.out; omega)
          have HT := Lib.hid hst
          clear hst
          by_cases hk1 : k + 1 < n
          · have hkl : k + 1 < l.length := by have := HN.out; omega
            obtain ⟨d, r2, hcr⟩ : ∃ d r2, l.drop (k + 1) = d :: r2 := ⟨l[k + 1], l.drop (k + 1 + 1), List.drop_eq_getElem_cons hkl⟩
            have hks1 : k + 1 < S.size := by omega
            have hkc : l[k + 1]? = some d := by
              have h := congrArg (fun z : List UInt8 => z[0]?) hcr
              simpa [List.getElem?_drop] using h
            have hr : l.drop (k + 1 + 1) = r2 := by
              have h := congrArg (List.drop 1) hcr
              simpa [List.drop_drop] using h
            obtain ⟨y, hy⟩ : ∃ y, y = d.toNat := ⟨_, rfl⟩
            have s7 : S[k + 1].toNat = y := by
              have h : S[k + 1] = d := by
                have e : S.data.toList[k + 1]? = some d := by rw [HS.out, txt_data]; exact hkc
                have e2 : S.data[k + 1] = d := by simpa [hks1] using e
                exact e2
              rw [h, hy]
            have j1 : (k : Int) + 1 < (n : Int) := by omega
            have hrr : r = d :: r2 := by rw [← HR.out, hcr]
            have HY := Lib.hid hy
            have HRR := Lib.hid hrr
            have HR2 := Lib.hid hr
            clear hy hrr hr hcr hkc hkl
            by_cases h83 : y = 83
            · subst h83
              go_wp2_with fail
              refine ⟨⟨1, -1, k + 2, a, 0, rfl, rfl, by go_num, by omega, .inr (.inr ⟨rfl, by omega, -1, 0, a, .inl ⟨rfl, rfl⟩, rfl, by decide, rfl, ?_, ?_⟩), hI⟩, by simp [intOf]; omega⟩
              · have h6 : (2 : Nat) ^ (la + 1).toNat ≤ 2 ^ 9 := Nat.pow_le_pow_right (by omega) (by rcases H1.out with h | h <;> omega)
                have h7 : (2 : Nat) ^ 9 = 512 := by decide
                omega
              · rw [H4.out, HC.out, HT.out]
                show readT a (c :: r) = _
                rw [HRR.out, readT_slash _ _ HX.out.symm HY.out.symm, show l.drop (k + 2) = r2 from HR2.out]
            · have h83' : ¬ (y : Int) = 83 := by omega
              go_wp2_with fail
              all_goals
                refine bodyPost_ret (v := .tuple #[.agg #[.int .i64 0, .int .i64 0], .int .i64 2]) (by simp [results, Tryz.results32, go_sem, p0, p1]) rfl ⟨?_, (hI.below.setCell (by simp) _).setCell (by simp) _⟩
                rw [H4.out, HC.out, HT.out]
                dsimp only
                rw [HRR.out, readT_no2 _ _ (by rw [← HY.out]; exact h83)]
          · have j1 : ¬ (k : Int) + 1 < (n : Int) := by omega
            have hrn : r = [] := by rw [← HR.out]; exact List.drop_eq_nil_of_le (by have := HN.out; omega)
            have HRN := Lib.hid hrn
            clear hrn
            go_wp2_with fail
            all_goals
              refine bodyPost_ret (v := .tuple #[.agg #[.int .i64 0, .int .i64 0], .int .i64 2]) (by simp [results, Tryz.results32, go_sem, p0, p1]) rfl ⟨?_, (hI.below.setCell (by simp) _).setCell (by simp) _⟩
              rw [H4.out, HC.out, HT.out, HRN.out]
              rfl
        · have h47' : ¬ (x : Int) = 47 := by omega
          by_cases hdig : 48 ≤ x ∧ x ≤ 56 ∧ last < x
          · have d1 : (48 : Int) ≤ x := by omega
            have d2 : (x : Int) ≤ 56 := by omega
            have d3 : last < x := hdig.2.2
            go_wp2_with fail
            obtain ⟨z1, z2, z3, z4⟩ := dig_step H1.out h2 hdig.1 hdig.2.1 d3
            refine ⟨⟨0, x, k + 1, (a + 2 ^ (x - 48) : Nat), 0, rfl, rfl, rfl, by omega, .inr (.inl ⟨rfl, by omega, rfl, (x : Int) - 48, a + 2 ^ (x - 48), z4, rfl, z3, ?_⟩), ?_⟩, by simp [intOf]; omega⟩
            · have hx := HX.out
              rw [H4.out, HC.out, maskF_go r la a (by rcases H1.out with h | h <;> omega), HR.out, ← hx, or_bit z1 (by omega)]
              simp
            · rw [z2]
              exact ⟨hI.below.setCell (by simp) _, blk_set hI.b0 (by simp) _, Joins.block_setCell hI.b1 _⟩
          · go_wp2_with fail
            all_goals
              refine bodyPost_ret (v := .tuple #[.agg #[.int .i64 0, .int .i64 0], .int .i64 2]) (by simp [results, Tryz.results32, go_sem, p0, p1]) rfl ⟨?_, (hI.below.setCell (by simp) _).setCell (by simp) _⟩
              rw [H4.out, HC.out, maskF_stop r la a (by have hx := HX.out; rw [← hx]; exact no_dig H1.out hdig)]
              dsimp only
              rw [readT_no _ _ (by rw [← HX.out]; exact h47)]
      · obtain ⟨h1k, la, a, b, h1, rfl, h2, rfl, h3, h4⟩ := h
        have H4 := Lib.hid h4
        have H1 := Lib.hid h1
        clear h4 h1
        have hk0 : ¬ (k : Int) = 0 := by omega
        by_cases hdig : 48 ≤ x ∧ x ≤ 56 ∧ last < x
        · have d1 : (48 : Int) ≤ x := by omega
          have d2 : (x : Int) ≤ 56 := by omega
          have d3 : last < x := hdig.2.2
          have d4 : ¬ (x : Int) = 47 := by omega
          have d5 : ¬ (x : Int) = 66 := by omega
          go_wp2_with fail
          obtain ⟨z1, z2, z3, z4⟩ := dig_step H1.out h2 hdig.1 hdig.2.1 d3
          refine ⟨⟨1, x, k + 1, b, (a + 2 ^ (x - 48) : Nat), rfl, rfl, rfl, by omega, .inr (.inr ⟨rfl, by omega, (x : Int) - 48, a + 2 ^ (x - 48), b, z4, rfl, z3, rfl, h3, ?_⟩), ?_⟩, by simp [intOf]; omega⟩
          · have hx := HX.out
            rw [H4.out, HC.out, maskF_go r la a (by rcases H1.out with h | h <;> omega), HR.out, ← hx, or_bit z1 (by omega)]
            simp
          · rw [z2]
            exact ⟨hI.below.setCell (by simp) _, blk_set hI.b0 (by simp) _, Joins.block_setCell hI.b1 _⟩
        · go_wp2_with fail
          all_goals
            refine bodyPost_ret (v := .tuple #[.agg #[.int .i64 0, .int .i64 0], .int .i64 2]) (by simp [results, Tryz.results32, go_sem, p0, p1]) rfl ⟨?_, (hI.below.setCell (by simp) _).setCell (by simp) _⟩
            rw [H4.out, HC.out, maskF_stop r la a (by have hx := HX.out; rw [← hx]; exact no_dig H1.out hdig), readE_no]
    · obtain rfl : k = n := by omega
      have hd : l.drop k = [] := List.drop_eq_nil_of_le (by have := HN.out; omega)
      have HD := Lib.hid hd
      clear hd
      rcases hst with ⟨rfl, rfl, rfl, rfl, rfl⟩ | ⟨rfl, h⟩ | ⟨rfl, h⟩
      · go_wp2_with fail
        refine bodyPost_ret (v := .tuple #[.agg #[.int .i64 0, .int .i64 0], .int .i64 2]) (by simp [results, Tryz.results32, go_sem, p0, p1]) rfl ⟨?_, (hI.below.setCell (by simp) _).setCell (by simp) _⟩
        have : l = [] := List.eq_nil_of_length_eq_zero HN.out.symm
        subst this
        rfl
      · have H := Lib.hid h
        clear h
        go_wp2_with fail
        refine bodyPost_ret (v := .tuple #[.agg #[.int .i64 0, .int .i64 0], .int .i64 2]) (by simp [results, Tryz.results32, go_sem, p0, p1]) rfl ⟨?_, (hI.below.setCell (by simp) _).setCell (by simp) _⟩
        obtain ⟨_, _, la, a, _, _, _, h4⟩ := H.out
        rw [h4, HD.out]
        rfl
      · obtain ⟨_, la, a, b, h1, rfl, h2, rfl, h3, h4⟩ := h
        have H := Lib.hid h4
        have h5 : a < 512 := by
          have h6 : (2 : Nat) ^ (la + 1).toNat ≤ 2 ^ 9 := Nat.pow_le_pow_right (by omega) (by rcases h1 with h | h <;> omega)
          have h7 : (2 : Nat) ^ 9 = 512 := by decide
          omega
        clear h4 h2
        by_cases hev : (b : Int) % 2 = 1
        · go_wp2_with fail
          refine bodyPost_ret (v := .tuple #[.agg #[.int .i64 0, .int .i64 0], .int .i64 4]) (by simp [results, Tryz.results32, go_sem, p0, p1]) rfl ⟨?_, (hI.below.setCell (by simp) _).setCell (by simp) _⟩
          rw [H.out, HD.out, maskF, readE_end (by omega) (by omega) (by omega) (by omega), if_neg (by omega)]
        · go_wp2_with fail
          refine bodyPost_ret (v := .tuple #[.agg #[.int .i64 (b : Nat), .int .i64 (a : Nat)], .int .i64 0]) (by simp [results, Tryz.results32, go_sem, p0, p1]) rfl ⟨?_, (hI.below.setCell (by simp) _).setCell (by simp) _⟩
          rw [H.out, HD.out, maskF, readE_end (by omega) (by omega) (by omega) (by omega), if_pos (by omega)]
end Go.Proofs.YtdmamecfmfhlmaaGreatDoor
