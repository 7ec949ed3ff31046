/-
  strconv.FormatUint at base 16.
-/
import Derived.Test.YtjbkfkgdpbjliaaDoorBigDigits
import Derived.Test.YtjbkfkgdpbjliaaDoorItoas
namespace Go.Proofs.YtjbkfkgdpbjliaaDoor
set_option maxRecDepth 100000
open Go.RowKit

/-- The library's table of the places of bits reads, where it is asked, as it is listed. -/
def DeB (B : Nat) (w : World) : Prop := ∀ W, Below B w W → W.cell? ⟨2, 15, none⟩ = some (.int .u8 4)
theorem DeB.on {B : Nat} {w w' : World} (h : DeB B w) (hb : Below B w w') : DeB B w' := fun W h2 => h W (hb.trans h2)
theorem pow2_any (w : World) : Calls Tryd.prog 50 #[.int .i64 16] w fun e w' => e = .returned (.bool true) ∧ w' = w := by
  go_enter Tryd.func50, Tryd.ntmps50
  go_wp2_with fail
  go_ret
  exact ⟨rfl, rfl⟩
theorem tz64_any (w : World) (h : w.cell? ⟨2, 15, none⟩ = some (.int .u8 4)) : Calls Tryd.prog 58 #[.int .u64 16] w fun e w' => e = .returned (.int .i64 4) ∧ w' = w := by
  have h1 : bits .and .u64 16 (IntKind.u64.wrap (-16)) = 16 := by decide
  have h2 : IntKind.u64.wrap (16 * 285870213051353865) / 288230376151711744 = 15 := by decide
  go_enter Tryd.func58, Tryd.ntmps58
  go_wp2_with fail
  go_ret
  exact ⟨rfl, rfl⟩
theorem tz_any (w : World) (h : w.cell? ⟨2, 15, none⟩ = some (.int .u8 4)) : Calls Tryd.prog 51 #[.int .u64 16] w fun e w' => e = .returned (.int .i64 4) ∧ w' = w := by
  have HT := Lib.hid (tz64_any w h)
  go_enter Tryd.func51, Tryd.ntmps51
  go_wp2_with fail
  refine HT.out.mono ?_
  rintro e w' ⟨rfl, rfl⟩
  go_wp2_with fail
  go_ret
  exact ⟨rfl, rfl⟩
theorem numT_more {B n : Nat} (hB : 2 ≤ B) (h : B ≤ n) : numT B n = numT B (n / B) ++ [chr36 (n % B)] := by
  have h1 : 0 < n / B := Nat.div_pos h (by omega)
  rw [numT_pos_eq (by omega), numT_pos_eq h1, digs_step (by omega) hB, List.map_cons, List.reverse_cons]
theorem numT_one {B n : Nat} (hB : 2 ≤ B) (h : n < B) : numT B n = [chr36 n] := by
  rcases Nat.eq_zero_or_pos n with rfl | h0
  · rfl
  · rw [numT_pos_eq h0, digs_step h0 hB, Nat.div_eq_of_lt h, digs_zero, Nat.mod_eq_of_lt h]; rfl
theorem zeroHex : Tryd.zeroCells75 = (List.replicate 65 (Value.int .u8 0)).toArray := by kernel_rfl
/-- The array of digits: so many noughts, and the digits behind them. -/
def HexRow (w : World) (g k : Nat) (D : List UInt8) : Prop := w.heap[g]? = some (.cells (List.replicate k (Value.int .u8 0) ++ encB D).toArray 75 (0, 0))
theorem HexRow.set {w : World} {g k : Nat} {D : List UInt8} {x : UInt8} (h : HexRow w g (k + 1) D) : HexRow (w.setCell ⟨g, k, none⟩ (.int .u8 x.toNat)) g k (x :: D) := by
  unfold HexRow
  rw [Joins.block_setCell h]
  congr 2
  rw [List.setIfInBounds_toArray]
  congr 1
  rw [List.replicate_succ', List.append_assoc]
  have e : ∀ (A : List Value) (y z : Value) (r : List Value), (A ++ y :: r).set A.length z = A ++ z :: r := fun A y z r => by simp
  have := e (List.replicate k (Value.int .u8 0)) (.int .u8 0) (.int .u8 x.toNat) (encB D)
  rw [List.length_replicate] at this
  exact this
theorem and_15 {m : Nat} (h : m < 18446744073709551616) : bits .and .u64 (m : Int) 15 = ((m % 16 : Nat) : Int) := by
  have h1 : (BitVec.ofInt 64 (m : Int)).toNat = m := by
    rw [BitVec.ofInt_natCast, BitVec.toNat_ofNat]; exact Nat.mod_eq_of_lt (by omega)
  have h2 : (BitVec.ofInt 64 15).toNat = 15 := by decide
  have h3 : bits .and .u64 (m : Int) 15 = IntKind.u64.wrap (((BitVec.ofInt 64 (m : Int) &&& BitVec.ofInt 64 15).toNat : Nat) : Int) := rfl
  have h4 : m &&& 15 = m % 16 := Nat.and_two_pow_sub_one_eq_mod m 4
  rw [h3, BitVec.toNat_and, h1, h2, h4, IntKind.wrap_u64]
  omega
def hexS : ByteArray := ⟨#[48, 49, 50, 51, 52, 53, 54, 55, 56, 57, 97, 98, 99, 100, 101, 102, 103, 104, 105, 106, 107, 108, 109, 110, 111, 112, 113, 114, 115, 116, 117, 118, 119, 120, 121, 122]⟩
theorem hex_dig (r : Nat) (h : r < 16) (h2 : r < hexS.size) : hexS[r].toNat = (chr36 r).toNat := by
  rcases (show r = 0 ∨ r = 1 ∨ r = 2 ∨ r = 3 ∨ r = 4 ∨ r = 5 ∨ r = 6 ∨ r = 7 ∨ r = 8 ∨ r = 9 ∨ r = 10 ∨ r = 11 ∨ r = 12 ∨ r = 13 ∨ r = 14 ∨ r = 15 by omega) with rfl | rfl | rfl | rfl | rfl | rfl | rfl | rfl | rfl | rfl | rfl | rfl | rfl | rfl | rfl | rfl <;> rfl
theorem conv_hex {W : World} {g j : Nat} {D : List UInt8} (h : HexRow W g j D) (hl : D.length + j = 65) : (convert 54 9 (.slice (some ⟨g, j, none⟩) D.length D.length)).run Tryd.prog W = .ok (.string (txt D)) W := by
  have h1 := run_convert_bytes_arg (P := Tryd.prog) W 54 5 Tryd.underlying54 Tryd.underlying5 g j D.length D.length (D.map fun c => (c.toNat : Int)) (by simp) (fun i hi => by
    rw [Joins.cell_of_block h]
    simp only [List.getElem?_toArray]
    rw [List.getElem?_append_right (by simp), List.length_replicate, Nat.add_sub_cancel_left, encB, List.getElem?_map, List.getElem?_eq_getElem (by simpa using hi)]
    simp [List.getD, show i < D.length by simpa using hi]) 9 Tryd.underlying9
  rw [h1]
  congr 2
  rw [← txt_eta (strOfNums _), strOfNums_data]
  congr 1
  rw [List.map_map]
  have e : ((fun n : Int => UInt8.ofNat n.toNat) ∘ fun c : UInt8 => (c.toNat : Int)) = id := by funext c; simp
  rw [e, List.map_id]
theorem slice_hex (W : World) (g j : Nat) (hj : j < 65) : (Instr.sliceAt 75 (.pointer (some ⟨g, 0, none⟩)) (some (.int .i64 j)) none none).run Tryd.prog W = .ok (.slice (some ⟨g, j, none⟩) (65 - j) (65 - j)) W := by
  have hu : Tryd.prog.underlying 75 = some (.array (Tryd.prog.arrayLen 75) (Tryd.prog.elem 75)) := Tryd.underlying75
  have hl : Tryd.prog.arrayLen 75 = 65 := rfl
  rw [run_sliceAt_array_l W 75 ⟨g, 0, none⟩ hu .i64 (j : Int) (by omega) (by rw [hl]; omega)]
  have hz : (sizeOf (Tryd.prog.elem 75)).run Tryd.prog W = .ok 1 W := by kernel_rfl
  rw [hz, hl]
  simp only [Result.andThen_ok, slicedAt, Int.toNat_natCast]
  rw [if_neg (by omega), Nat.mul_one, Addr.add_lit, Nat.zero_add]
set_option maxHeartbeats 4000000 in
set_option maxRecDepth 100000 in
theorem bits_any (B n : Nat) (w : World) (hn : n < 18446744073709551616) (hB : B ≤ w.heap.size) (hd : DeB B w) :
    Calls Tryd.prog 30 #[.slice none 0 0, .int .u64 n, .int .i64 16, .bool false, .bool false] w fun e w' => e = .returned (.tuple #[.slice none 0 0, .string (txt (numT 16 n))]) ∧ Below w.heap.size w w' := by
  obtain ⟨T, hT⟩ : ∃ T, T = txt (numT 16 n) := ⟨_, rfl⟩
  rw [← hT]
  have HT := Lib.hid hT
  clear hT
  have HD := Lib.hid hd
  go_enter Tryd.func30, Tryd.ntmps30
  go_wp2_with fail
  refine (pow2_any _).mono ?_
  rintro e w1 ⟨rfl, rfl⟩
  have hTZ := tz_any (w.alloc (.cells Tryd.zeroCells75 75)) (HD.out _ ((Below.refl _ _).alloc hB _))
  have HTZ := Lib.hid hTZ
  clear hTZ
  go_wp2_with fail
  refine HTZ.out.mono ?_
  rintro e w1 ⟨rfl, rfl⟩
  go_wp2_with fail
  obtain ⟨W, hW⟩ : ∃ W, W = w.alloc (.cells Tryd.zeroCells75 75) := ⟨_, rfl⟩
  have hR0 : HexRow W w.heap.size 65 [] := by
    rw [hW]
    show (w.alloc (.cells Tryd.zeroCells75 75)).heap[w.heap.size]? = _
    rw [blk_last w _ rfl, zeroHex]
    rfl
  have hB0 : Below w.heap.size w W := by rw [hW]; exact (Below.refl _ _).alloc (Nat.le_refl _) _
  rw [← hW]
  clear hW HTZ
  go_loopw [1, 13] (fun u i wr => ∃ (m k : Nat) (D : List UInt8), u = .int .u64 m ∧ i = .int .i64 k ∧ k ≤ 65 ∧ D.length + k = 65 ∧ m < 18446744073709551616 ∧ Aside (numT 16 n = numT 16 m ++ D) ∧ Aside (HexRow wr w.heap.size k D) ∧ Below w.heap.size w wr) (fun _ i _ => (intOf i).toNat)
  case atStart => exact ⟨n, 65, [], rfl, rfl, Nat.le_refl _, rfl, hn, (List.append_nil _).symm, hR0, hB0⟩
  case round =>
    clear hR0 hB0
    obtain ⟨m, k, D, rfl, rfl, hk, hDk, hm, HN, HR, hBw⟩ := hrel
    have hl := numT_len (B := 16) (by omega) hn
    have hp := numT_pos 16 m (by omega)
    have hlen : (numT 16 m).length + D.length ≤ 64 := by rw [HN.out, List.length_append] at hl; exact hl
    have hk0 : 2 ≤ k := by omega
    obtain ⟨j, rfl⟩ : ∃ j, k = j + 1 := ⟨k - 1, by omega⟩
    have hj : ((j + 1 : Nat) : Int) - 1 = (j : Int) := by omega
    have fr : wr.frozen? ⟨w.heap.size, j, none⟩ = false := Joins.unfrozen_of_block HR.out j
    have hand := and_15 hm
    have c0 : wr.cell? ⟨w.heap.size, j, none⟩ = some (.int .u8 0) := by
      rw [Joins.cell_of_block HR.out]
      simp only [List.getElem?_toArray]
      rw [List.getElem?_append_left (by simp), List.getElem?_replicate, if_pos (by omega)]
    have hs36 : hexS.size = 36 := rfl
    by_cases h16 : 16 ≤ m
    · have hge : decide ((m : Int) ≥ 16) = true := decide_eq_true (by omega)
      have hge' : decide (16 ≤ (m : Int)) = true := decide_eq_true (by omega)
      have hge2 : decide (16 ≤ m) = true := decide_eq_true (by omega)
      have hm4 := numT_more (B := 16) (by omega) h16
      have hdg := hex_dig (m % 16) (by omega) (by omega)
      have HSET := Lib.hid (HR.out.set (x := chr36 (m % 16)))
      have HN2 := Lib.hid (show numT 16 n = numT 16 (m / 16) ++ (chr36 (m % 16) :: D) by rw [HN.out, hm4, List.append_assoc]; rfl)
      have hB2 := hBw.setCell (p := ⟨w.heap.size, j, none⟩) (Nat.le_refl _) (.int .u8 (chr36 (m % 16)).toNat)
      have HB2 := Lib.hid hB2
      have hmm : m / 16 < 18446744073709551616 := by omega
      have hgl : w.heap.size < wr.heap.size := lt_of_block HR.out
      have HDG := Lib.hid hdg
      clear hl hp hm4 hB2 hdg
      go_wp2_with fail
      refine ⟨⟨m / 16, j, chr36 (m % 16) :: D, rfl, rfl, by omega, by rw [List.length_cons]; omega, hmm, HN2.out, ?_, ?_⟩, by simp [intOf]⟩
      · have := HSET.out
        rw [← HDG.out] at this
        exact this
      · have := HB2.out
        rw [← HDG.out] at this
        exact this
    · have hge : decide ((m : Int) ≥ 16) = false := decide_eq_false (by omega)
      have hge' : decide (16 ≤ (m : Int)) = false := decide_eq_false (by omega)
      have hge2 : decide (16 ≤ m) = false := decide_eq_false (by omega)
      have hm4 := numT_one (B := 16) (n := m) (by omega) (by omega)
      have hdg := hex_dig m (by omega) (by omega)
      have HSET := Lib.hid (HR.out.set (x := chr36 m))
      have HN2 := Lib.hid (show numT 16 n = chr36 m :: D by rw [HN.out, hm4]; rfl)
      have hB2 := hBw.setCell (p := ⟨w.heap.size, j, none⟩) (Nat.le_refl _) (.int .u8 (chr36 m).toNat)
      have HB2 := Lib.hid hB2
      have hm16 : m < 16 := by omega
      have hgl : w.heap.size < wr.heap.size := lt_of_block HR.out
      have HDG := Lib.hid hdg
      have hcv := fun (W : World) (h : HexRow W w.heap.size j (chr36 m :: D)) => conv_hex h (by rw [List.length_cons]; omega)
      have hDl : (chr36 m :: D).length = 65 - j := by rw [List.length_cons]; omega
      rw [hDl] at hcv
      have hsl := fun W : World => slice_hex W w.heap.size j (by omega)
      have hTT : T = txt (chr36 m :: D) := by rw [HT.out, HN2.out]
      obtain ⟨DD, hDD⟩ : ∃ DD, DD = (wr.setCell ⟨w.heap.size, j, none⟩ (.int .u8 (hexS[m]).toNat)) := ⟨_, rfl⟩
      have hcw : (convert 54 9 (.slice (some ⟨w.heap.size, j, none⟩) (65 - j) (65 - j))).run Tryd.prog DD = .ok (.string T) DD := by
        rw [hTT]
        refine hcv DD ?_
        rw [hDD, hdg]
        exact HSET.out
      have hBD : Below w.heap.size w DD := by rw [hDD, hdg]; exact hB2
      have HBD := Lib.hid hBD
      clear hl hp hm4 hB2 hdg hcv hTT hBD
      unfold hexS at hDD hs36
      go_upto_region 30 with fail
      rw [← hDD]
      clear hDD
      go_wp2_with fail
      go_ret2
      exact ⟨rfl, HBD.out⟩
theorem fmtIn_any (B n : Nat) (w : World) (hn : n < 18446744073709551616) (hB : B ≤ w.heap.size) (hd : DeB B w) :
    Calls Tryd.prog 13 #[.int .u64 n, .int .i64 16] w fun e w' => e = .returned (.string (txt (numT 16 n))) ∧ Below w.heap.size w w' := by
  have HB := Lib.hid (bits_any B n w hn hB hd)
  obtain ⟨T, hT⟩ : ∃ T, T = txt (numT 16 n) := ⟨_, rfl⟩
  rw [← hT] at HB ⊢
  clear hT
  go_enter Tryd.func13, Tryd.ntmps13
  go_wp2_with fail
  refine HB.out.mono ?_
  rintro e w1 ⟨rfl, hb⟩
  go_wp2_with fail
  go_ret
  exact ⟨rfl, hb⟩
theorem fmtUint_any (B n : Nat) (w : World) (hn : n < 18446744073709551616) (hB : B ≤ w.heap.size) (hd : DeB B w) :
    Calls Tryd.prog 9 #[.int .u64 n, .int .i64 16] w fun e w' => e = .returned (.string (txt (numT 16 n))) ∧ Below w.heap.size w w' := by
  have HB := Lib.hid (fmtIn_any B n w hn hB hd)
  obtain ⟨T, hT⟩ : ∃ T, T = txt (numT 16 n) := ⟨_, rfl⟩
  rw [← hT] at HB ⊢
  clear hT
  go_enter Tryd.func9, Tryd.ntmps9
  go_wp2_with fail
  refine HB.out.mono ?_
  rintro e w1 ⟨rfl, hb⟩
  go_wp2_with fail
  go_ret
  exact ⟨rfl, hb⟩
end Go.Proofs.YtjbkfkgdpbjliaaDoor
