/-
  Whole numbers that are not below 0: low, of, Xor: the walks.
-/
import Derived.Test.YtjbkfkgdpbjliaaDoorXorWords
import Derived.Test.YtjbkfkgdpbjliaaDoorBigSmall
namespace Go.Proofs.YtjbkfkgdpbjliaaDoor
set_option maxRecDepth 100000
open Go.RowKit

theorem xor_u32 (a b : Nat) (ha : a < 4294967296) (hb : b < 4294967296) : bits .xor .u32 (a : Int) (b : Int) = ((a ^^^ b : Nat) : Int) := by
  have hx : a ^^^ b < 2 ^ 32 := Nat.xor_lt_two_pow (by omega) (by omega)
  have h1 : (BitVec.ofInt 32 (a : Int)).toNat = a := by
    rw [BitVec.ofInt_natCast, BitVec.toNat_ofNat]; exact Nat.mod_eq_of_lt (by omega)
  have h2 : (BitVec.ofInt 32 (b : Int)).toNat = b := by
    rw [BitVec.ofInt_natCast, BitVec.toNat_ofNat]; exact Nat.mod_eq_of_lt (by omega)
  have h3 : bits .xor .u32 (a : Int) (b : Int) = IntKind.u32.wrap (((BitVec.ofInt 32 (a : Int) ^^^ BitVec.ofInt 32 (b : Int)).toNat : Nat) : Int) := rfl
  rw [h3, BitVec.toNat_xor, h1, h2, IntKind.wrap_u32]
  omega
set_option maxHeartbeats 4000000 in
theorem low_any (p n k : Nat) (w : World) (hp : BigAt w p n) (hk : (wordsN n).length ≤ k) (hk1 : k ≤ 1000000) :
    Calls Tryd.prog 40 #[.pointer (some ⟨p, 0, none⟩), .int .i64 k] w fun e w' => e = .returned (.slice (some ⟨w.heap.size, 0, none⟩) k k) ∧ RowL w' w.heap.size (wordsN n ++ List.replicate (k - (wordsN n).length) 0) ∧ Below w.heap.size w w' := by
  obtain ⟨a, c, h0, h1, hs⟩ := bigAt_read hp
  have hpl := hp.lt
  have hmk := make_words k hk1 w
  obtain ⟨W, hW⟩ : ∃ W, W = w.alloc (.cells (zerosW k) 66) := ⟨_, rfl⟩
  have hR0 : RowL W w.heap.size (List.replicate k 0) := by rw [hW]; exact rowL_zeros rfl
  have hB0 : Below w.heap.size w W := by rw [hW]; exact (Below.refl _ _).alloc (Nat.le_refl _) _
  rw [← hW] at hmk
  obtain ⟨A, hA⟩ : ∃ A, A = wordsN n := ⟨_, rfl⟩
  rw [← hA] at h1 hs hk ⊢
  obtain ⟨w', hcp, hR, hK⟩ := copyW W w.heap.size k A a c hR0 hk (hs.below (by omega) hB0)
  have c0 : w'.cell? ⟨p, 0, none⟩ = some (.bool false) := (hK.cell (p := ⟨p, 0, none⟩) (by have := hB0.size; show p < _; omega) (by show p ≠ _; omega)).trans ((hB0.cell (p := ⟨p, 0, none⟩) hpl).trans h0)
  have d1 : W.cell? ⟨p, 1, none⟩ = some (.slice a A.length c) := (hB0.cell (p := ⟨p, 1, none⟩) hpl).trans h1
  have HB := Lib.hid (hB0.trans (hK.toBelow (fun i e => by omega) hB0.size))
  have HR := Lib.hid hR
  clear hA hR0 hB0 hW hR hK hs h0 h1
  go_enter Tryd.func40, Tryd.ntmps40
  go_wp2_with fail
  go_ret
  exact ⟨rfl, HR.out, HB.out⟩
set_option maxHeartbeats 4000000 in
theorem of_any (p : Nat) (ws : List Nat) (g : Nat) (w : World) (hp : BigBlk w p) (hr : RowL w g ws) (h0 : 0 < ws.length) (hl : ws.length ≤ 1000000) (hlt : ∀ x ∈ ws, x < 4294967296) (htop : ws[ws.length - 1]? = some 0) :
    Calls Tryd.prog 41 #[.pointer (some ⟨p, 0, none⟩), .slice (some ⟨g, 0, none⟩) ws.length ws.length] w fun e w' => e = .returned (.pointer (some ⟨p, 0, none⟩)) ∧ BigAt w' p (valW ws) ∧ Keeps (fun i => i = p) w w' := by
  have hT := Lib.hid (trim_any ws (some ⟨g, 0, none⟩) ws.length w h0 hlt (sl_fresh (ty := 66) hr hl) (fun b o x hx => by cases hx; exact ⟨_, _, hr⟩))
  have hc := hr.cell htop
  obtain ⟨k, hk⟩ : ∃ k, k = ws.length := ⟨_, rfl⟩
  rw [← hk] at hT h0 hl hc ⊢
  have hki : (k : Int) - 1 = ((k - 1 : Nat) : Int) := by omega
  obtain ⟨k1, hk1⟩ : ∃ k1, k1 = k - 1 := ⟨_, rfl⟩
  rw [← hk1] at hki hc
  have q1 : k1 < k := by omega
  have q2 : (k1 : Int) < (k : Int) := by omega
  have q3 : (0 : Int) ≤ (k1 : Int) := by omega
  have q4 : decide ((0 : Int) < (k : Int)) = true := decide_eq_true (by omega)
  have q5 : (0 : Int) < (k : Int) := by omega
  have HG := Lib.hid (fun v hv => give_any p (valW ws) v w hp hv)
  clear hk hk1 hr htop hlt
  go_enter Tryd.func41, Tryd.ntmps41
  go_wp2_with fail
  refine hT.out.mono ?_
  rintro e w1 ⟨⟨v, rfl, hv⟩, rfl⟩
  have HV := Lib.hid hv
  clear hv
  go_wp2_with fail
  refine (HG.out v HV.out).mono ?_
  rintro e w2 ⟨rfl, h1, h2⟩
  have H1 := Lib.hid h1
  have H2 := Lib.hid h2
  clear h1 h2
  go_wp2_with fail
  go_ret
  exact ⟨rfl, H1.out, H2.out⟩
set_option maxHeartbeats 4000000 in
theorem bigXor_any (p q r n m : Nat) (w : World) (hp : BigBlk w p) (hq : BigAt w q n) (hr : BigAt w r m) (hn : n < bigTop) (hm : m < bigTop) :
    Calls Tryd.prog 22 #[.pointer (some ⟨p, 0, none⟩), .pointer (some ⟨q, 0, none⟩), .pointer (some ⟨r, 0, none⟩)] w fun e w' => e = .returned (.pointer (some ⟨p, 0, none⟩)) ∧ BigAt w' p (n ^^^ m) ∧ Keeps (fun i => i = p) w w' := by
  obtain ⟨a, ca, -, hq1, -⟩ := bigAt_read hq
  obtain ⟨b, cb, -, hr1, -⟩ := bigAt_read hr
  have hla := wordsN_len hn
  have hlb := wordsN_len hm
  obtain ⟨la, hLA⟩ : ∃ la, la = (wordsN n).length := ⟨_, rfl⟩
  obtain ⟨lb, hLB⟩ : ∃ lb, lb = (wordsN m).length := ⟨_, rfl⟩
  rw [← hLA] at hq1 hla
  rw [← hLB] at hr1 hlb
  obtain ⟨k, hk⟩ : ∃ k, k = max la lb + 1 := ⟨_, rfl⟩
  have hka : la < k := by omega
  have hkb : lb < k := by omega
  have hk1 : k ≤ 1001 := by omega
  have hmx : ∃ mx : Nat, max (la : Int) (lb : Int) = (mx : Int) ∧ (mx : Int) + 1 = (k : Int) ∧ (mx = la ∨ mx = lb) := ⟨max la lb, by omega, by omega, by omega⟩
  obtain ⟨mx, hmxI, hkI, hml⟩ := hmx
  have HL1 := Lib.hid (fun W (h : BigAt W q n) => low_any q n k W h (by rw [← hLA]; omega) (by omega))
  have HL2 := Lib.hid (fun W (h : BigAt W r m) => low_any r m k W h (by rw [← hLB]; omega) (by omega))
  obtain ⟨A, hA⟩ : ∃ A, A = wordsN n ++ List.replicate (k - (wordsN n).length) 0 := ⟨_, rfl⟩
  obtain ⟨D, hD⟩ : ∃ D, D = wordsN m ++ List.replicate (k - (wordsN m).length) 0 := ⟨_, rfl⟩
  rw [← hA] at HL1
  rw [← hD] at HL2
  have hAl : A.length = k := by rw [hA, List.length_append, List.length_replicate, ← hLA]; omega
  have hDl : D.length = k := by rw [hD, List.length_append, List.length_replicate, ← hLB]; omega
  have HAl := Lib.hid hAl
  have HDl := Lib.hid hDl
  have HAlow := Lib.hid (show ∀ x ∈ A, x < 4294967296 by rw [hA]; exact pad_low (wordsN_lt n) _)
  have HDlow := Lib.hid (show ∀ x ∈ D, x < 4294967296 by rw [hD]; exact pad_low (wordsN_lt m) _)
  have HVA := Lib.hid (show valW A = n by rw [hA, valW_pad, wordsN_val])
  have HVD := Lib.hid (show valW D = m by rw [hD, valW_pad, wordsN_val])
  have HAT := Lib.hid (show A[k - 1]? = some 0 by rw [hA, List.getElem?_append_right (by rw [← hLA]; omega), List.getElem?_replicate, if_pos (by rw [← hLA]; omega)])
  have HDT := Lib.hid (show D[k - 1]? = some 0 by rw [hD, List.getElem?_append_right (by rw [← hLB]; omega), List.getElem?_replicate, if_pos (by rw [← hLB]; omega)])
  have HP := Lib.hid hp
  have HQ := Lib.hid hq
  have HRR := Lib.hid hr
  have HK := Lib.hid hk
  have hqd : w.drew.cell? ⟨q, 1, none⟩ = some (.slice a la ca) := hq1
  have hrd : w.drew.cell? ⟨r, 1, none⟩ = some (.slice b lb cb) := hr1
  clear hp hq hr hLA hLB hA hD hAl hDl hk
  clear hmxI hkI hml
  go_enter Tryd.func22, Tryd.ntmps22
  go_wp2_with fail
  go_region
  go_wp2_with fail
  all_goals
    first
    | rw [show (lb : Int) + 1 = (k : Int) by have := HK.out; omega]
    | rw [show (la : Int) + 1 = (k : Int) by have := HK.out; omega]
    refine (HL1.out _ (HQ.out.below (Below.refl _ _).drew)).mono ?_
    rintro e w1 ⟨rfl, r1, b1⟩
    have hB1 : Below w.heap.size w w1 := (Below.refl w.heap.size w).drew.trans b1
    have R1 := Lib.hid (show RowL w1 w.heap.size A from r1)
    have HB1 := Lib.hid hB1
    have hs1 := hB1.size
    clear r1 b1 hB1
    go_wp2_with fail
    refine (HL2.out _ (HRR.out.below HB1.out)).mono ?_
    rintro e w2 ⟨rfl, r2, b2⟩
    have R1b := Lib.hid (show RowL w2 w.heap.size A from (b2.block _ (lt_of_block R1.out)).trans R1.out)
    have R2 := Lib.hid (show RowL w2 w1.heap.size D from r2)
    have hg1 := lt_of_block R1.out
    have HB2 := Lib.hid (HB1.out.trans (b2.mono hs1))
    have hs2 := b2.size
    clear r2 b2
    go_wp2_with fail
    go_loopw [10] (fun i wr => ∃ (j : Nat), i = .int .i64 j ∧ j ≤ k ∧ Aside (RowL wr w.heap.size ((xorL A D).take j ++ A.drop j)) ∧ Aside (RowL wr w1.heap.size D) ∧ Below w.heap.size w wr) (fun i _ => k - (intOf i).toNat)
    case atStart => exact ⟨0, rfl, Nat.zero_le _, R1b.out, R2.out, HB2.out⟩
    case round =>
      obtain ⟨j, rfl, hj, HR1, HR2, hBw⟩ := hrel
      have hgl : w.heap.size < wr.heap.size := lt_of_block HR1.out
      have hxl : (xorL A D).length = k := by rw [xorL_len (by rw [HAl.out, HDl.out]), HAl.out]
      by_cases hlt : j < k
      · obtain ⟨x, hx⟩ : ∃ x, A[j]? = some x := ⟨A[j]'(by have := HAl.out; omega), by simp⟩
        obtain ⟨y, hy⟩ : ∃ y, D[j]? = some y := ⟨D[j]'(by have := HDl.out; omega), by simp⟩
        have hx1 := HAlow.out x (List.mem_of_getElem? hx)
        have hy1 := HDlow.out y (List.mem_of_getElem? hy)
        have htl : ((xorL A D).take j).length = j := by rw [List.length_take, hxl]; omega
        have hdr : A.drop j = x :: A.drop (j + 1) := by
          obtain ⟨h1, rfl⟩ := List.getElem?_eq_some_iff.1 hx
          exact List.drop_eq_getElem_cons h1
        have c1 : wr.drew.cell? ⟨w.heap.size, j, none⟩ = some (.int .u32 x) := HR1.out.cell (by rw [List.getElem?_append_right (by omega), htl, Nat.sub_self, hdr]; rfl)
        have c2 : wr.drew.cell? ⟨w1.heap.size, j, none⟩ = some (.int .u32 y) := HR2.out.cell hy
        have fr : wr.drew.frozen? ⟨w.heap.size, j, none⟩ = false := Joins.unfrozen_of_block HR1.out j
        have fr' : wr.frozen? ⟨w.heap.size, j, none⟩ = false := Joins.unfrozen_of_block HR1.out j
        obtain ⟨z, hz⟩ : ∃ z, z = x ^^^ y := ⟨_, rfl⟩
        have hxor : bits .xor .u32 (x : Int) (y : Int) = (z : Int) := by rw [xor_u32 x y hx1 hy1, hz]
        have hset : RowL (wr.drew.setCell ⟨w.heap.size, j, none⟩ (.int .u32 (z : Nat))) w.heap.size ((xorL A D).take (j + 1) ++ A.drop (j + 1)) := by
          have h := RowL.set (w := wr.drew) HR1.out j z
          rw [hdr] at h
          have e := set_mid ((xorL A D).take j) x z (A.drop (j + 1))
          rw [htl] at e
          rw [e] at h
          rw [List.take_add_one, xorL_at hx hy, List.append_assoc, ← hz]
          exact h
        have HSET := Lib.hid hset
        have HR2b := Lib.hid (show RowL (wr.drew.setCell ⟨w.heap.size, j, none⟩ (.int .u32 (z : Nat))) w1.heap.size D from (Below.heap_setCell wr.drew ⟨w.heap.size, j, none⟩ (.int .u32 (z : Nat)) w1.heap.size (by show w1.heap.size ≠ w.heap.size; omega)).trans HR2.out)
        have HBB := Lib.hid (hBw.drew.setCell (p := ⟨w.heap.size, j, none⟩) (Nat.le_refl _) (.int .u32 (z : Nat)))
        have i0 : (0 : Int) ≤ (j : Int) := by omega
        have i1 : (j : Int) < (k : Int) := by omega
        clear hx hy htl hdr hz hset hxl
        go_wp2_with fail
        go_region
        go_wp2_with fail
        exact ⟨⟨j + 1, by go_num, by omega, HSET.out, HR2b.out, HBB.out⟩, by simp [intOf]; omega⟩
      · obtain rfl : j = k := by omega
        have hrow : RowL wr w.heap.size (xorL A D) := by
          have h := HR1.out
          rw [List.take_of_length_le (by omega), show j = A.length from HAl.out.symm, List.drop_length, List.append_nil] at h
          exact h
        have hkp : 1 ≤ j := by have := HK.out; omega
        have hof := of_any p (xorL A D) w.heap.size wr (HP.out.below hBw) hrow (by omega) (by omega) (xorL_low HAlow.out HDlow.out) (by rw [hxl, xorL_at HAT.out HDT.out]; rfl)
        rw [xorL_val (by rw [HAl.out, HDl.out]) HAlow.out HDlow.out, HVA.out, HVD.out, hxl] at hof
        have HOF := Lib.hid hof
        have HKB := Lib.hid (Keeps.of_below (F := fun i => i = p) hBw)
        clear hrow hof hxl
        go_wp2_with fail
        refine HOF.out.mono ?_
        rintro e w5 ⟨rfl, h1, h2⟩
        have H1 := Lib.hid h1
        have H2 := Lib.hid (HKB.out.trans h2 (fun _ _ h => h))
        clear h1 h2
        go_wp2_with fail
        go_ret
        exact ⟨rfl, H1.out, H2.out⟩
end Go.Proofs.YtjbkfkgdpbjliaaDoor
