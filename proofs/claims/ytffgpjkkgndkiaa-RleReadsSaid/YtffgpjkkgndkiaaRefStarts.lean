/-
  The document's starts.
-/
import Derived.Test.YtffgpjkkgndkiaaRefNums
namespace Go.Proofs.Ytffgpjkkgndkiaa
set_option maxRecDepth 100000
open Go.RowKit

def startF (l p : List UInt8) (a : Nat) : Int := if preB p (l.drop a) = true then ((a + p.length : Nat) : Int) else -1
theorem starts_neg (S T : ByteArray) (w : World) :
    Calls Try.prog 104 #[.string S, .int .i64 (-1), .string T] w fun e w' => e = .returned (.int .i64 (-1)) ∧ w' = w := by
  go_enter Try.func104, Try.ntmps104
  go_wp2_with fail
  go_ret
  exact ⟨rfl, rfl⟩
set_option maxHeartbeats 2000000 in
theorem starts_any (l p : List UInt8) (a : Nat) (w : World) (hl : l.length ≤ 140737488351232) (hp : p.length ≤ 1000) (ha : a ≤ l.length) :
    Calls Try.prog 104 #[.string (txt l), .int .i64 a, .string (txt p)] w fun e w' => e = .returned (.int .i64 (startF l p a)) ∧ w' = w := by
  obtain ⟨S, hS⟩ : ∃ S, S = txt l := ⟨_, rfl⟩
  obtain ⟨T, hT⟩ : ∃ T, T = txt p := ⟨_, rfl⟩
  have hn : S.size = l.length := by rw [hS, txt_size]
  have ht : T.size = p.length := by rw [hT, txt_size]
  by_cases hle : a + p.length ≤ l.length
  · have hx : ((S.extract a (a + p.length)).toList == T.toList) = preB p (l.drop a) := by
      rw [hS, hT, extract_list, txt_toList, txt_toList, Bool.eq_iff_iff, beq_iff_eq, preB_iff, List.drop_take, Nat.add_sub_cancel_left]
      exact ⟨fun h => ⟨by rw [List.length_drop]; omega, h⟩, fun h => h.2⟩
    obtain ⟨q, hq⟩ : ∃ q, q = preB p (l.drop a) := ⟨_, rfl⟩
    have hf : startF l p a = if q = true then ((a + p.length : Nat) : Int) else -1 := by rw [startF, hq]
    rw [← hq] at hx
    rw [hf]
    obtain ⟨n, hN⟩ : ∃ n, n = l.length := ⟨_, rfl⟩
    obtain ⟨m, hM⟩ : ∃ m, m = p.length := ⟨_, rfl⟩
    rw [← hM] at hx
    rw [← hN] at hn hl hle ha
    rw [← hM] at ht hp hle ⊢
    rw [← hS, ← hT]
    have w1 : (0 : Int) ≤ (a : Int) + (m : Int) := by omega
    have w2 : (a : Int) + (m : Int) ≤ (n : Int) := by omega
    have w3 : decide ((n : Int) < (a : Int) + (m : Int)) = false := decide_eq_false (by omega)
    clear hS hT hq hN hM hf
    cases q
    all_goals
      go_enter Try.func104, Try.ntmps104
      go_wp2_with fail
      go_ret
      exact ⟨by simp, rfl⟩
  · have hf : startF l p a = -1 := by
      rw [startF, if_neg]
      intro h
      have := (preB_iff.1 h).1
      rw [List.length_drop] at this
      omega
    have HF := Lib.hid hf
    obtain ⟨n, hN⟩ : ∃ n, n = l.length := ⟨_, rfl⟩
    obtain ⟨m, hM⟩ : ∃ m, m = p.length := ⟨_, rfl⟩
    rw [← hN] at hn hl hle ha
    rw [← hM] at ht hp hle
    rw [← hS, ← hT]
    have w3 : decide ((n : Int) < (a : Int) + (m : Int)) = true := decide_eq_true (by omega)
    clear hS hT hN hM hf
    go_enter Try.func104, Try.ntmps104
    go_wp2_with fail
    go_ret
    exact ⟨by rw [HF.out]; rfl, rfl⟩
end Go.Proofs.Ytffgpjkkgndkiaa
