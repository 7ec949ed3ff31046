/-
  Whole numbers: Cmp, Uint64, Int64.
-/
import Derived.Test.YtdmamecfmfhlmaaGreatDoorBigCmp
import Derived.Laws.Bits64
namespace Go.Proofs.YtdmamecfmfhlmaaGreatDoor
set_option maxRecDepth 100000
open Go.RowKit

theorem or_u64 (a b : Nat) (ha : a < 18446744073709551616) (hb : b < 18446744073709551616) : bits .or .u64 (a : Int) (b : Int) = ((a ||| b : Nat) : Int) := by
  have hx : a ||| b < 2 ^ 64 := Nat.or_lt_two_pow (by omega) (by omega)
  have h1 : (BitVec.ofInt 64 (a : Int)).toNat = a := by
    rw [BitVec.ofInt_natCast, BitVec.toNat_ofNat]; exact Nat.mod_eq_of_lt (by omega)
  have h2 : (BitVec.ofInt 64 (b : Int)).toNat = b := by
    rw [BitVec.ofInt_natCast, BitVec.toNat_ofNat]; exact Nat.mod_eq_of_lt (by omega)
  have h3 : bits .or .u64 (a : Int) (b : Int) = IntKind.u64.wrap (((BitVec.ofInt 64 (a : Int) ||| BitVec.ofInt 64 (b : Int)).toNat : Nat) : Int) := rfl
  rw [h3, BitVec.toNat_or, h1, h2, IntKind.wrap_u64]
  omega
theorem or_words (x y : Nat) (hx : x < 4294967296) (hy : y < 4294967296) : bits .or .u64 (x : Int) ((y : Int) * 4294967296) = ((x + 4294967296 * y : Nat) : Int) := by
  have e : (y : Int) * 4294967296 = ((y * 4294967296 : Nat) : Int) := by omega
  rw [e, or_u64 x _ (by omega) (by omega), Nat.or_comm]
  have h : y <<< 32 ||| x = y <<< 32 + x := (Nat.shiftLeft_add_eq_or_of_lt (by omega) y).symm
  rw [show y * 4294967296 = y <<< 32 by rw [Nat.shiftLeft_eq], h, Nat.shiftLeft_eq]
  omega
theorem bigAt_read {w : World} {p n : Nat} (h : BigAt w p n) : ∃ a c, w.cell? ⟨p, 0, none⟩ = some (.bool false) ∧ w.cell? ⟨p, 1, none⟩ = some (.slice a (wordsN n).length c) ∧ Sl w 1 4 a (wordsN n).length c ((wordsN n).map u32V) := by
  obtain ⟨v, hb, a, c, rfl, hs, _⟩ := h
  exact ⟨a, c, Joins.cell_of_block hb 0, Joins.cell_of_block hb 1, hs⟩
set_option maxHeartbeats 2000000 in
theorem uint64_any (p n : Nat) (w : World) (hp : BigAt w p n) (hn : n < 18446744073709551616) :
    Calls Tryz.prog 66 #[.pointer (some ⟨p, 0, none⟩)] w fun e w' => e = .returned (.int .u64 n) ∧ w' = w := by
  obtain ⟨a1, c1, p0, p1, s1⟩ := bigAt_read hp
  have hlt := wordsN_lt n
  by_cases h0 : n = 0
  · subst h0
    clear s1 hlt
    rw [wordsN_zero] at p1
    go_enter Tryz.func66, Tryz.ntmps66
    go_wp2_with fail
    go_ret
    exact ⟨rfl, rfl⟩
  · by_cases h1 : n < 4294967296
    · have hw : wordsN n = [n] := by rw [wordsN_two hn, if_neg h0, if_pos h1]
      rw [hw] at p1 s1
      obtain ⟨b, o, rfl, hr⟩ := s1.row (by simp)
      have e0 : w.cell? ⟨b, o, none⟩ = some (.int .u32 n) := hr 0 _ rfl
      clear s1 hr hw hlt
      simp at p1
      go_enter Tryz.func66, Tryz.ntmps66
      go_wp2_with fail
      go_ret
      exact ⟨rfl, rfl⟩
    · have hw : wordsN n = [n % 4294967296, n / 4294967296] := by rw [wordsN_two hn, if_neg h0, if_neg h1]
      rw [hw] at p1 s1
      obtain ⟨b, o, rfl, hr⟩ := s1.row (by simp)
      have e0 : w.cell? ⟨b, o, none⟩ = some (.int .u32 (n % 4294967296 : Nat)) := hr 0 _ rfl
      have e1 : w.cell? ⟨b, o + 1, none⟩ = some (.int .u32 (n / 4294967296 : Nat)) := hr 1 _ rfl
      obtain ⟨x, hx⟩ : ∃ x, x = n % 4294967296 := ⟨_, rfl⟩
      obtain ⟨y, hy⟩ : ∃ y, y = n / 4294967296 := ⟨_, rfl⟩
      have hx1 : x < 4294967296 := by omega
      have hy1 : y < 4294967296 := by omega
      rw [← hx] at e0
      rw [← hy] at e1
      have HXY : Aside (x + 4294967296 * y = n) := by show _ = _; omega
      have hor := or_words x y hx1 hy1
      rw [HXY.out] at hor
      clear s1 hr hw hlt hx hy
      simp at p1
      go_enter Tryz.func66, Tryz.ntmps66
      go_wp2_with fail
      go_ret
      exact ⟨rfl, rfl⟩
set_option maxHeartbeats 1000000 in
theorem int64_any (p n : Nat) (w : World) (hp : BigAt w p n) (hn : n < 9223372036854775808) :
    Calls Tryz.prog 47 #[.pointer (some ⟨p, 0, none⟩)] w fun e w' => e = .returned (.int .i64 n) ∧ w' = w := by
  obtain ⟨a1, c1, p0, p1, s1⟩ := bigAt_read hp
  have HU := Lib.hid (uint64_any p n w hp (by omega))
  clear p1 s1 hp
  go_enter Tryz.func47, Tryz.ntmps47
  go_wp2_with fail
  refine HU.out.mono ?_
  rintro e w' ⟨rfl, rfl⟩
  go_wp2_with fail
  go_ret
  exact ⟨rfl, rfl⟩
end Go.Proofs.YtdmamecfmfhlmaaGreatDoor
