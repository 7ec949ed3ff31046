/-
  For all rules, states and numbers, rule.Lives answers what the document's Lives answers; no condition; rule.mask: the bits of rising digits that a text begins with, and what is behind; What Good and the document's GoodRule answer.
-/
import Derived.Test.YtdmamecfmfhlmaaGreatDoorKinds
import Derived.Test.YtdmamecfmfhlmaaGreatDoorZSpeechWrites10
namespace Go.Proofs.YtdmamecfmfhlmaaGreatDoor
set_option maxRecDepth 100000
open Go.RowKit

/-- 'x & 1' on an int is 'x % 2'. -/
theorem and_one_i64 (x : Int) : bits .and .i64 x 1 = x % 2 := by
  have h1 : BitVec.ofInt 64 x &&& BitVec.ofInt 64 1 = BitVec.ofNat 64 ((BitVec.ofInt 64 x).toNat % 2) := by
    apply BitVec.eq_of_toNat_eq
    rw [BitVec.toNat_and]
    have e : (BitVec.ofInt 64 1).toNat = 1 := by decide
    rw [e, Nat.and_one_is_mod, BitVec.toNat_ofNat]
    omega
  show IntKind.i64.wrap ((BitVec.ofInt 64 x &&& BitVec.ofInt 64 1).toNat : Int) = x % 2
  rw [h1, BitVec.toNat_ofNat, IntKind.wrap_i64]
  have e2 : ((BitVec.ofInt 64 x).toNat : Int) = x % 18446744073709551616 := by
    rw [BitVec.toNat_ofInt]; omega
  omega

/-- Go's remainder by 2 is 1 or -1 just where a number is odd. -/
theorem odd_tmod (x : Int) : ((x.tmod 2 == 1) || (x.tmod 2 == -1)) = (x % 2 == 1) := by
  have h := Int.mul_tdiv_add_tmod x 2
  have h1 : x.tmod 2 = -1 ∨ x.tmod 2 = 0 ∨ x.tmod 2 = 1 := by
    have a := Int.tmod_lt_of_pos x (show (0 : Int) < 2 by omega)
    have b := Int.lt_tmod_of_pos x (show (0 : Int) < 2 by omega)
    omega
  rcases h1 with e | e | e <;> rw [e] at h ⊢ <;> simp <;> omega

/-- What 'Lives' answers. -/
def livesF (b l : Int) (al : Bool) (n : Int) : Bool := decide (0 ≤ n) && (decide (n ≤ 8) && ((if al then l else b) / 2 ^ n.toNat % 2 == 1))
theorem three (n : Int) : n < 0 ∨ (0 ≤ n ∧ n ≤ 8) ∨ (0 ≤ n ∧ 8 < n) := by omega

end Go.Proofs.YtdmamecfmfhlmaaGreatDoor
namespace Go.Proofs.YtdmamecfmfhlmaaGreatDoor
set_option maxRecDepth 100000
open Go.RowKit

/-- The bits of rising digits that a text begins with, and what is behind. -/
def maskF : List UInt8 → Int → Int → Int × List UInt8
  | [], _, m => (m, [])
  | c :: r, last, m => if 48 ≤ c.toNat ∧ c.toNat ≤ 56 ∧ last < (c.toNat : Int) - 48 then maskF r ((c.toNat : Int) - 48) (bits .or .i64 m (2 ^ (c.toNat - 48))) else (m, c :: r)
theorem wrap_bit {k : Nat} (h : k ≤ 8) : wrap64 (2 ^ k) = 2 ^ k := by
  have : k = 0 ∨ k = 1 ∨ k = 2 ∨ k = 3 ∨ k = 4 ∨ k = 5 ∨ k = 6 ∨ k = 7 ∨ k = 8 := by omega
  rcases this with rfl | rfl | rfl | rfl | rfl | rfl | rfl | rfl | rfl <;> decide +kernel
def strLen : Value → Nat
  | .string s => s.size
  | _ => 0

set_option maxRecDepth 100000 in
set_option maxHeartbeats 1000000 in
theorem mask_any (l : List UInt8) (w : World) :
    Calls Tryz.prog 55 #[.string (txt l)] w fun e w' => e = .returned (.tuple #[.int .i64 (maskF l (-1) 0).1, .string (txt (maskF l (-1) 0).2)]) ∧ w' = w := by
  go_enter Tryz.func55, Tryz.ntmps55
  go_wp2_with fail
  go_loopw [0, 4, 5] (fun s m last wr => ∃ (r : List UInt8) (mi la : Int), s = .string (txt r) ∧ m = .int .i64 mi ∧ last = .int .i64 la ∧ Aside (maskF r la mi = maskF l (-1) 0) ∧ r.length ≤ l.length ∧ -1 ≤ la ∧ la ≤ 8 ∧ wr = w) (fun s _ _ _ => strLen s)
  case atStart =>
    exact ⟨l, 0, -1, rfl, rfl, rfl, rfl, Nat.le_refl _, by omega, by omega, rfl⟩
  case round =>
    obtain ⟨r, mi, la, rfl, rfl, rfl, H, hr, h1, h2, rfl⟩ := hrel
    cases r with
    | nil =>
      have e1 : (txt []).toList = [] := txt_toList []
      have e2 : (txt []).toList.isEmpty = true := by rw [e1]; rfl
      go_wp2_with fail
      refine bodyPost_ret (v := .tuple #[.int .i64 mi, .string (txt [])]) (by simp [results, Tryz.results55, go_sem]) rfl ⟨?_, rfl⟩
      rw [← H.out]; rfl
    | cons c r =>
      obtain ⟨S, hS, s1, s2, s3, s4, s5, s6⟩ := txt_cons c r
      rw [← hS]
      have hlr : r.length + 1 ≤ l.length := hr
      have hlt := c.toNat_lt
      obtain ⟨n, hn⟩ : ∃ n, n = c.toNat := ⟨_, rfl⟩
      rw [← hn] at s6 hlt
      have HS := Lib.hid hS
      have HN := Lib.hid hn
      clear hS hn hr
      by_cases c1 : n < 48
      · have c1' : (n : Int) < 48 := by omega
        go_wp2_with fail
        refine bodyPost_ret (v := .tuple #[.int .i64 mi, .string S]) (by simp [results, Tryz.results55, go_sem]) rfl ⟨?_, rfl⟩
        have hn := HN.out
        have hS := HS.out
        rw [← H.out, maskF, if_neg (by omega), hS]
      · have c1' : (48 : Int) ≤ (n : Int) := by omega
        by_cases c2 : 56 < n
        · have c2' : (56 : Int) < (n : Int) := by omega
          go_wp2_with fail
          refine bodyPost_ret (v := .tuple #[.int .i64 mi, .string S]) (by simp [results, Tryz.results55, go_sem]) rfl ⟨?_, rfl⟩
          have hn := HN.out
          have hS := HS.out
          rw [← H.out, maskF, if_neg (by omega), hS]
        · have c2' : (n : Int) ≤ 56 := by omega
          by_cases c3 : la < (n : Int) - 48
          · go_wp2_with fail
            have hn := HN.out
            refine ⟨⟨r, bits .or .i64 mi (2 ^ (n - 48)), (n : Int) - 48, rfl, by rw [wrap_bit (by omega)], rfl, ?_, by omega, by omega, by omega, trivial⟩, ?_⟩
            · show _ = _
              rw [← H.out, maskF, if_pos (by omega), ← hn]
            · simp only [strLen, txt_size]; omega
          · have c3' : (n : Int) - 48 ≤ la := by omega
            go_wp2_with fail
            refine bodyPost_ret (v := .tuple #[.int .i64 mi, .string S]) (by simp [results, Tryz.results55, go_sem]) rfl ⟨?_, rfl⟩
            have hn := HN.out
            have hS := HS.out
            rw [← H.out, maskF, if_neg (by omega), hS]
end Go.Proofs.YtdmamecfmfhlmaaGreatDoor
namespace Go.Proofs.YtdmamecfmfhlmaaGreatDoor
set_option maxRecDepth 100000
open Go.RowKit

/-- Whether a rule is one. -/
def goodF (b l : Int) : Bool := decide (0 ≤ b) && decide (b < 512) && decide (0 ≤ l) && decide (l < 512) && (b % 2 == 0)
theorem sixR (b l : Int) : b < 0 ∨ (0 ≤ b ∧ 512 ≤ b) ∨ (0 ≤ b ∧ b < 512 ∧ l < 0) ∨ (0 ≤ b ∧ b < 512 ∧ 0 ≤ l ∧ 512 ≤ l) ∨ (0 ≤ b ∧ b < 512 ∧ 0 ≤ l ∧ l < 512) := by omega
theorem good_no {b l : Int} (h : b < 0 ∨ 512 ≤ b ∨ l < 0 ∨ 512 ≤ l) : goodF b l = false := by
  rw [Bool.eq_false_iff]; intro h'; simp [goodF] at h'; omega
theorem good_in {b l : Int} (h0 : 0 ≤ b) (h1 : b < 512) (h2 : 0 ≤ l) (h3 : l < 512) : goodF b l = (b % 2 == 0) := by
  simp [goodF, h0, h1, h2, h3]

set_option maxHeartbeats 1000000 in
theorem good_any (b l : Int) (w : World) :
    Calls Tryz.prog 16 #[.agg #[.int .i64 b, .int .i64 l]] w fun e w' => e = .returned (.bool (goodF b l)) ∧ Below w.heap.size w w' := by
  rcases sixR b l with h0 | ⟨h0, h1⟩ | ⟨h0, h1, h2⟩ | ⟨h0, h1, h2, h3⟩ | ⟨h0, h1, h2, h3⟩
  rotate_right
  · rw [good_in h0 h1 h2 h3]
    go_enter Tryz.func16, Tryz.ntmps16
    go_wp2
    go_ret
    exact ⟨by simp [and_one_i64], (Below.refl _ _).alloc (Nat.le_refl _) _⟩
  all_goals
    rw [good_no (by omega)]
    go_enter Tryz.func16, Tryz.ntmps16
    go_wp2
    go_ret
    exact ⟨rfl, (Below.refl _ _).alloc (Nat.le_refl _) _⟩
set_option maxHeartbeats 1000000 in
theorem refGood_any (b l : Int) (w : World) :
    Calls Tryz.prog 26 #[.agg #[.int .i64 b, .int .i64 l]] w fun e w' => e = .returned (.bool (goodF b l)) ∧ Below w.heap.size w w' := by
  rcases sixR b l with h0 | ⟨h0, h1⟩ | ⟨h0, h1, h2⟩ | ⟨h0, h1, h2, h3⟩ | ⟨h0, h1, h2, h3⟩
  rotate_right
  · rw [good_in h0 h1 h2 h3]
    have c1 : b ≤ 511 := by omega
    have c2 : l ≤ 511 := by omega
    go_enter Tryz.func26, Tryz.ntmps26
    go_wp2
    go_ret
    exact ⟨by simp, (Below.refl _ _).alloc (Nat.le_refl _) _⟩
  all_goals
    rw [good_no (by omega)]
    go_enter Tryz.func26, Tryz.ntmps26
    go_wp2
    go_ret
    exact ⟨rfl, (Below.refl _ _).alloc (Nat.le_refl _) _⟩
end Go.Proofs.YtdmamecfmfhlmaaGreatDoor
