/-
  For all rules, states and numbers, rule.Lives answers what the document's Lives answers; no condition.
-/
import Derived.Test.YtdmamecfmfhlmaaDoorKinds
namespace Go.Proofs.YtdmamecfmfhlmaaDoor
set_option maxRecDepth 100000
open Go.RowKit

/-- 'x & 1' on an int is 'x % 2'. -/
theorem and_one_i64 (x : Int) : bits .and .i64 x 1 = x % 2 := by
  have h1 : BitVec.ofInt 64 x &&& BitVec.ofInt 64 1 = BitVec.ofNat 64 ((BitVec.ofInt 64 x).toNat % 2) := by
    apply BitVec.eq_of_toNat_eq
    rw [BitVec.toNat_and]
    have e : (BitVec.ofInt 64 1).toNat = 1 := by decide
    rw [e, Nat.and_one_is_mod, BitVec.toNat_ofNat]
    omega
  show IntKind.i64.wrap ((BitVec.ofInt 64 x &&& BitVec.ofInt 64 1).toNat : Int) = x % 2
  rw [h1, BitVec.toNat_ofNat, IntKind.wrap_i64]
  have e2 : ((BitVec.ofInt 64 x).toNat : Int) = x % 18446744073709551616 := by
    rw [BitVec.toNat_ofInt]; omega
  omega

/-- Go's remainder by 2 is 1 or -1 just where a number is odd. -/
theorem odd_tmod (x : Int) : ((x.tmod 2 == 1) || (x.tmod 2 == -1)) = (x % 2 == 1) := by
  have h := Int.mul_tdiv_add_tmod x 2
  have h1 : x.tmod 2 = -1 ∨ x.tmod 2 = 0 ∨ x.tmod 2 = 1 := by
    have a := Int.tmod_lt_of_pos x (show (0 : Int) < 2 by omega)
    have b := Int.lt_tmod_of_pos x (show (0 : Int) < 2 by omega)
    omega
  rcases h1 with e | e | e <;> rw [e] at h ⊢ <;> simp <;> omega

/-- What 'Lives' answers. -/
def livesF (b l : Int) (al : Bool) (n : Int) : Bool := decide (0 ≤ n) && (decide (n ≤ 8) && ((if al then l else b) / 2 ^ n.toNat % 2 == 1))
theorem three (n : Int) : n < 0 ∨ (0 ≤ n ∧ n ≤ 8) ∨ (0 ≤ n ∧ 8 < n) := by omega

end Go.Proofs.YtdmamecfmfhlmaaDoor
