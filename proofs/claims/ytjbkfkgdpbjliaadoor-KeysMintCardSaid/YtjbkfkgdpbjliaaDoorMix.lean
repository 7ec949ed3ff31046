/-
  keys.mix: a number that hangs on a serial and a draw.
-/
import Derived.Test.YtjbkfkgdpbjliaaDoorBigText
import Derived.Test.YtjbkfkgdpbjliaaDoorXorWords
namespace Go.Proofs.YtjbkfkgdpbjliaaDoor
set_option maxRecDepth 100000
open Go.RowKit

def mixA (s : Nat) (d : Int) : Nat := (((s : Int) * 11400714819323198485 + d) % 18446744073709551616).toNat
def mixB (z : Nat) : Nat := ((z ^^^ (z / 1073741824)) * 13787848793156543929) % 18446744073709551616
def mixC (z : Nat) : Nat := ((z ^^^ (z / 134217728)) * 10723151780598845931) % 18446744073709551616
def mixD (z : Nat) : Nat := z ^^^ (z / 2147483648)
def mixN (s : Nat) (d : Int) : Nat := mixD (mixC (mixB (mixA s d)))
theorem mixA_lt (s : Nat) (d : Int) : mixA s d < 18446744073709551616 := by unfold mixA; omega
theorem mixB_lt (z : Nat) : mixB z < 18446744073709551616 := Nat.mod_lt _ (by omega)
theorem mixC_lt (z : Nat) : mixC z < 18446744073709551616 := Nat.mod_lt _ (by omega)
theorem xor_lt64 {a b : Nat} (ha : a < 18446744073709551616) (hb : b < 18446744073709551616) : a ^^^ b < 18446744073709551616 := Nat.xor_lt_two_pow (n := 64) ha hb
theorem mixN_lt (s : Nat) (d : Int) : mixN s d < 18446744073709551616 := by
  have := mixC_lt (mixB (mixA s d))
  exact xor_lt64 this (by omega)
theorem xor_u64 (a b : Nat) (ha : a < 18446744073709551616) (hb : b < 18446744073709551616) : bits .xor .u64 (a : Int) (b : Int) = ((a ^^^ b : Nat) : Int) := by
  have h1 := xor_lt64 ha hb
  have h := bits_xor_u64_nat a b (by omega) (by omega)
  exact h
theorem wrap64 (a : Nat) : IntKind.u64.wrap (a : Int) = ((a % 18446744073709551616 : Nat) : Int) := by rw [IntKind.wrap_u64]; omega
theorem mix_any (s : Nat) (d : Int) (w : World) (hs : s < 2147483648) (_hd : -9223372036854775808 ≤ d ∧ d ≤ 9223372036854775807) :
    Calls Tryd.prog 10 #[.int .i64 s, .int .i64 d] w fun e w' => e = .returned (.int .u64 (mixN s d : Nat)) ∧ w' = w := by
  have hA : IntKind.u64.wrap (IntKind.u64.wrap ((s : Int) * 11400714819323198485) + IntKind.u64.wrap d) = ((mixA s d : Nat) : Int) := by
    rw [IntKind.wrap_u64, IntKind.wrap_u64, IntKind.wrap_u64]
    unfold mixA
    omega
  have hl := mixA_lt s d
  have hm : ∀ z : Nat, z < 18446744073709551616 → ∀ k : Nat, bits .xor .u64 (z : Int) ((z / k : Nat) : Int) = ((z ^^^ (z / k) : Nat) : Int) := fun z hz k => xor_u64 _ _ hz (Nat.lt_of_le_of_lt (Nat.div_le_self _ _) hz)
  have hd2 : ∀ z : Nat, z < 18446744073709551616 → ∀ k : Nat, ((z : Int) / (k : Int)) = ((z / k : Nat) : Int) := fun z hz k => (Int.natCast_ediv z k).symm
  have hN : mixN s d = mixD (mixC (mixB (mixA s d))) := rfl
  obtain ⟨A, hAe⟩ : ∃ A, A = mixA s d := ⟨_, rfl⟩
  rw [← hAe] at hA hl hN
  have hB : IntKind.u64.wrap (bits .xor .u64 (A : Int) ((A : Int) / 1073741824) * 13787848793156543929) = ((mixB A : Nat) : Int) := by
    have e := hd2 A hl 1073741824
    simp only [Int.cast_ofNat_Int] at e
    rw [e, hm A hl, show ((A ^^^ A / 1073741824 : Nat) : Int) * 13787848793156543929 = (((A ^^^ A / 1073741824) * 13787848793156543929 : Nat) : Int) by omega, wrap64]
    rfl
  have hlB := mixB_lt A
  obtain ⟨B, hBe⟩ : ∃ B, B = mixB A := ⟨_, rfl⟩
  rw [← hBe] at hB hlB hN
  have hC : IntKind.u64.wrap (bits .xor .u64 (B : Int) ((B : Int) / 134217728) * 10723151780598845931) = ((mixC B : Nat) : Int) := by
    have e := hd2 B hlB 134217728
    simp only [Int.cast_ofNat_Int] at e
    rw [e, hm B hlB, show ((B ^^^ B / 134217728 : Nat) : Int) * 10723151780598845931 = (((B ^^^ B / 134217728) * 10723151780598845931 : Nat) : Int) by omega, wrap64]
    rfl
  have hlC := mixC_lt B
  obtain ⟨C, hCe⟩ : ∃ C, C = mixC B := ⟨_, rfl⟩
  rw [← hCe] at hC hlC hN
  have hD : bits .xor .u64 (C : Int) ((C : Int) / 2147483648) = ((mixN s d : Nat) : Int) := by
    have e := hd2 C hlC 2147483648
    simp only [Int.cast_ofNat_Int] at e
    rw [e, hm C hlC, hN]
    rfl
  clear hm hd2 hN hAe hBe hCe
  obtain ⟨N, hNe⟩ : ∃ N, N = mixN s d := ⟨_, rfl⟩
  rw [← hNe] at hD ⊢
  clear hNe
  go_enter Tryd.func10, Tryd.ntmps10
  go_wp2_with fail
  go_ret
  refine ⟨?_, rfl⟩
  rfl
end Go.Proofs.YtjbkfkgdpbjliaaDoor
