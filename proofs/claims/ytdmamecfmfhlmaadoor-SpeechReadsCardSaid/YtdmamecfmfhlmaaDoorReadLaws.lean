/-
  Plain laws of reading a rule: a bit put in by 'or' or by '+'; what is read from the middle of a text.
-/
import Derived.Test.YtdmamecfmfhlmaaDoorReads
namespace Go.Proofs.YtdmamecfmfhlmaaDoor
set_option maxRecDepth 100000
open Go.RowKit

theorem wrap_nat_of (Z : BitVec 64) : IntKind.i64.wrap (Z.toNat : Int) = Z.toInt := by
  rw [IntKind.wrap_i64, BitVec.toInt_eq_toNat_cond]
  have := Z.isLt
  split <;> omega
theorem or_bit {a d : Nat} (h : a < 2 ^ d) (hd : d ≤ 8) : bits .or .i64 (a : Int) (2 ^ d) = (a : Int) + 2 ^ d := by
  have hp : (2 : Nat) ^ d ≤ 256 := by
    have : (2 : Nat) ^ d ≤ 2 ^ 8 := Nat.pow_le_pow_right (by omega) hd
    simpa using this
  show IntKind.i64.wrap ((BitVec.ofInt 64 (a : Int) ||| BitVec.ofInt 64 (2 ^ d)).toNat : Int) = _
  have e1 : BitVec.ofInt 64 (a : Int) = BitVec.ofNat 64 a := by apply BitVec.eq_of_toNat_eq; simp
  have e2 : BitVec.ofInt 64 ((2 : Int) ^ d) = BitVec.ofNat 64 (2 ^ d) := by
    rw [show ((2 : Int) ^ d) = ((2 ^ d : Nat) : Int) by simp]
    exact BitVec.ofInt_natCast 64 _
  rw [e1, e2, BitVec.toNat_or, BitVec.toNat_ofNat, BitVec.toNat_ofNat, Nat.mod_eq_of_lt (by omega), Nat.mod_eq_of_lt (by omega)]
  have e3 : a ||| 2 ^ d = 2 ^ d + a := by
    have := Nat.two_pow_add_eq_or_of_lt h 1
    rw [Nat.mul_one] at this
    rw [this, Nat.or_comm]
  rw [e3, IntKind.wrap_i64]
  have e4 : ((2 : Int) ^ d) = ((2 ^ d : Nat) : Int) := by simp
  rw [e4]
  omega

/-- The end of a reading: the first mask, and what the second one left. -/
def readE (m0 : Int) (M : Int × List UInt8) : (Int × Int) × Int :=
  if M.2 = [] then (if goodF m0 M.1 then ((m0, M.1), 0) else ((0, 0), 4)) else ((0, 0), 2)
theorem readT_slash (B : Int) {c d : UInt8} (r : List UInt8) (hc : c.toNat = 47) (hd : d.toNat = 83) : readT B (c :: d :: r) = readE B (maskF r (-1) 0) := by
  rw [readT, if_pos ⟨hc, hd⟩]; rfl
theorem readT_no (B : Int) {c : UInt8} (r : List UInt8) (hc : ¬ c.toNat = 47) : readT B (c :: r) = ((0, 0), 2) := by
  cases r with
  | nil => rfl
  | cons d r => rw [readT, if_neg (fun h => hc h.1)]
theorem readT_no2 (B : Int) {c d : UInt8} (r : List UInt8) (hd : ¬ d.toNat = 83) : readT B (c :: d :: r) = ((0, 0), 2) := by
  rw [readT, if_neg (fun h => hd h.2)]
theorem maskF_stop {c : UInt8} (r : List UInt8) (la m : Int) (h : ¬ (48 ≤ c.toNat ∧ c.toNat ≤ 56 ∧ la < (c.toNat : Int) - 48)) : maskF (c :: r) la m = (m, c :: r) := by
  rw [maskF, if_neg h]
theorem maskF_go {c : UInt8} (r : List UInt8) (la m : Int) (h : 48 ≤ c.toNat ∧ c.toNat ≤ 56 ∧ la < (c.toNat : Int) - 48) : maskF (c :: r) la m = maskF r ((c.toNat : Int) - 48) (bits .or .i64 m (2 ^ (c.toNat - 48))) := by
  rw [maskF, if_pos h]
theorem readE_no (m0 m1 : Int) (c : UInt8) (r : List UInt8) : readE m0 (m1, c :: r) = ((0, 0), 2) := by simp [readE]
theorem readE_end {m0 m1 : Int} (h0 : 0 ≤ m0) (h1 : m0 < 512) (h2 : 0 ≤ m1) (h3 : m1 < 512) : readE m0 (m1, []) = if m0 % 2 = 0 then ((m0, m1), 0) else ((0, 0), 4) := by
  simp [readE, good_in h0 h1 h2 h3]
end Go.Proofs.YtdmamecfmfhlmaaDoor
