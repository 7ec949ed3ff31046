/-
  rule.mask: the bits of rising digits that a text begins with, and what is behind.
-/
import Derived.Test.YtdmamecfmfhlmaaDoorRuleLives
import Derived.Test.YtdmamecfmfhlmaaDoorTexts
namespace Go.Proofs.YtdmamecfmfhlmaaDoor
set_option maxRecDepth 100000
open Go.RowKit

/-- The bits of rising digits that a text begins with, and what is behind. -/
def maskF : List UInt8 → Int → Int → Int × List UInt8
  | [], _, m => (m, [])
  | c :: r, last, m => if 48 ≤ c.toNat ∧ c.toNat ≤ 56 ∧ last < (c.toNat : Int) - 48 then maskF r ((c.toNat : Int) - 48) (bits .or .i64 m (2 ^ (c.toNat - 48))) else (m, c :: r)
theorem wrap_bit {k : Nat} (h : k ≤ 8) : wrap64 (2 ^ k) = 2 ^ k := by
  have : k = 0 ∨ k = 1 ∨ k = 2 ∨ k = 3 ∨ k = 4 ∨ k = 5 ∨ k = 6 ∨ k = 7 ∨ k = 8 := by omega
  rcases this with rfl | rfl | rfl | rfl | rfl | rfl | rfl | rfl | rfl <;> decide +kernel
def strLen : Value → Nat
  | .string s => s.size
  | _ => 0

set_option maxRecDepth 100000 in
set_option maxHeartbeats 1000000 in
theorem mask_any (l : List UInt8) (w : World) :
    Calls Tryd.prog 114 #[.string (txt l)] w fun e w' => e = .returned (.tuple #[.int .i64 (maskF l (-1) 0).1, .string (txt (maskF l (-1) 0).2)]) ∧ w' = w := by
  go_enter Tryd.func114, Tryd.ntmps114
  go_wp2_with fail
  go_loopw [0, 4, 5] (fun s m last wr => ∃ (r : List UInt8) (mi la : Int), s = .string (txt r) ∧ m = .int .i64 mi ∧ last = .int .i64 la ∧ Aside (maskF r la mi = maskF l (-1) 0) ∧ r.length ≤ l.length ∧ -1 ≤ la ∧ la ≤ 8 ∧ wr = w) (fun s _ _ _ => strLen s)
  case atStart =>
    exact ⟨l, 0, -1, rfl, rfl, rfl, rfl, Nat.le_refl _, by omega, by omega, rfl⟩
  case round =>
    obtain ⟨r, mi, la, rfl, rfl, rfl, H, hr, h1, h2, rfl⟩ := hrel
    cases r with
    | nil =>
      have e1 : (txt []).toList = [] := txt_toList []
      have e2 : (txt []).toList.isEmpty = true := by rw [e1]; rfl
      go_wp2_with fail
      refine bodyPost_ret (v := .tuple #[.int .i64 mi, .string (txt [])]) (by simp [results, Tryd.results114, go_sem]) rfl ⟨?_, rfl⟩
      rw [← H.out]; rfl
    | cons c r =>
      obtain ⟨S, hS, s1, s2, s3, s4, s5, s6⟩ := txt_cons c r
      rw [← hS]
      have hlr : r.length + 1 ≤ l.length := hr
      have hlt := c.toNat_lt
      obtain ⟨n, hn⟩ : ∃ n, n = c.toNat := ⟨_, rfl⟩
      rw [← hn] at s6 hlt
      have HS := Lib.hid hS
      have HN := Lib.hid hn
      clear hS hn hr
      by_cases c1 : n < 48
      · have c1' : (n : Int) < 48 := by omega
        go_wp2_with fail
        refine bodyPost_ret (v := .tuple #[.int .i64 mi, .string S]) (by simp [results, Tryd.results114, go_sem]) rfl ⟨?_, rfl⟩
        have hn := HN.out
        have hS := HS.out
        rw [← H.out, maskF, if_neg (by omega), hS]
      · have c1' : (48 : Int) ≤ (n : Int) := by omega
        by_cases c2 : 56 < n
        · have c2' : (56 : Int) < (n : Int) := by omega
          go_wp2_with fail
          refine bodyPost_ret (v := .tuple #[.int .i64 mi, .string S]) (by simp [results, Tryd.results114, go_sem]) rfl ⟨?_, rfl⟩
          have hn := HN.out
          have hS := HS.out
          rw [← H.out, maskF, if_neg (by omega), hS]
        · have c2' : (n : Int) ≤ 56 := by omega
          by_cases c3 : la < (n : Int) - 48
          · go_wp2_with fail
            have hn := HN.out
            refine ⟨⟨r, bits .or .i64 mi (2 ^ (n - 48)), (n : Int) - 48, rfl, by rw [wrap_bit (by omega)], rfl, ?_, by omega, by omega, by omega, trivial⟩, ?_⟩
            · show _ = _
              rw [← H.out, maskF, if_pos (by omega), ← hn]
            · simp only [strLen, txt_size]; omega
          · have c3' : (n : Int) - 48 ≤ la := by omega
            go_wp2_with fail
            refine bodyPost_ret (v := .tuple #[.int .i64 mi, .string S]) (by simp [results, Tryd.results114, go_sem]) rfl ⟨?_, rfl⟩
            have hn := HN.out
            have hS := HS.out
            rw [← H.out, maskF, if_neg (by omega), hS]
end Go.Proofs.YtdmamecfmfhlmaaDoor
