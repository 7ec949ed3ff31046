/-
  Whole numbers: Cmp, Uint64, Int64.
-/
import Derived.Test.YtjbkfkgdpbjliaaDoorBigCmp
import Derived.Laws.Bits64
namespace Go.Proofs.YtjbkfkgdpbjliaaDoor
set_option maxRecDepth 100000
open Go.RowKit

theorem or_u64 (a b : Nat) (ha : a < 18446744073709551616) (hb : b < 18446744073709551616) : bits .or .u64 (a : Int) (b : Int) = ((a ||| b : Nat) : Int) := by
  have hx : a ||| b < 2 ^ 64 := Nat.or_lt_two_pow (by omega) (by omega)
  have h1 : (BitVec.ofInt 64 (a : Int)).toNat = a := by
    rw [BitVec.ofInt_natCast, BitVec.toNat_ofNat]; exact Nat.mod_eq_of_lt (by omega)
  have h2 : (BitVec.ofInt 64 (b : Int)).toNat = b := by
    rw [BitVec.ofInt_natCast, BitVec.toNat_ofNat]; exact Nat.mod_eq_of_lt (by omega)
  have h3 : bits .or .u64 (a : Int) (b : Int) = IntKind.u64.wrap (((BitVec.ofInt 64 (a : Int) ||| BitVec.ofInt 64 (b : Int)).toNat : Nat) : Int) := rfl
  rw [h3, BitVec.toNat_or, h1, h2, IntKind.wrap_u64]
  omega
theorem or_words (x y : Nat) (hx : x < 4294967296) (hy : y < 4294967296) : bits .or .u64 (x : Int) ((y : Int) * 4294967296) = ((x + 4294967296 * y : Nat) : Int) := by
  have e : (y : Int) * 4294967296 = ((y * 4294967296 : Nat) : Int) := by omega
  rw [e, or_u64 x _ (by omega) (by omega), Nat.or_comm]
  have h : y <<< 32 ||| x = y <<< 32 + x := (Nat.shiftLeft_add_eq_or_of_lt (by omega) y).symm
  rw [show y * 4294967296 = y <<< 32 by rw [Nat.shiftLeft_eq], h, Nat.shiftLeft_eq]
  omega
theorem bigAt_read {w : World} {p n : Nat} (h : BigAt w p n) : ∃ a c, w.cell? ⟨p, 0, none⟩ = some (.bool false) ∧ w.cell? ⟨p, 1, none⟩ = some (.slice a (wordsN n).length c) ∧ Sl w 1 4 a (wordsN n).length c ((wordsN n).map u32V) := by
  obtain ⟨v, hb, a, c, rfl, hs, _⟩ := h
  exact ⟨a, c, Joins.cell_of_block hb 0, Joins.cell_of_block hb 1, hs⟩
end Go.Proofs.YtjbkfkgdpbjliaaDoor
