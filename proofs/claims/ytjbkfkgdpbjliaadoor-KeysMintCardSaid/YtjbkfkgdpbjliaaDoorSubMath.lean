/-
  Words less words, in plain Lean.
-/
import Derived.Test.YtjbkfkgdpbjliaaDoorMulWords
namespace Go.Proofs.YtjbkfkgdpbjliaaDoor
set_option maxRecDepth 100000
open Go.RowKit

/-- Behind i words: the words R of the difference and the borrow c. -/
structure SubSt (a b R : List Nat) (i c : Nat) : Prop where
  len : R.length = i
  low : ∀ x ∈ R, x < 4294967296
  carry : c ≤ 1
  val : valW R + valW (b.take i) = valW (a.take i) + 4294967296 ^ i * c
theorem SubSt.start (a b : List Nat) : SubSt a b [] 0 0 := ⟨rfl, by simp, by omega, by simp [valW]⟩
theorem take_all {b : List Nat} {i : Nat} (h : b.length ≤ i) : b.take i = b := List.take_of_length_le h
theorem SubSt.next {a b R : List Nat} {i c x y lo c2 : Nat} (h : SubSt a b R i c) (ha : a[i]? = some x) (hx : x < 4294967296) (hb : (b[i]? = some y ∧ y < 4294967296) ∨ (b.length ≤ i ∧ y = 0)) (hl : lo < 4294967296) (hc : c2 ≤ 1) (he : lo + y + c = x + 4294967296 * c2) :
    SubSt a b (R ++ [lo]) (i + 1) c2 := by
  refine ⟨by rw [List.length_append, h.len]; rfl, fun z hz => ?_, hc, ?_⟩
  · rcases List.mem_append.1 hz with h1 | h1
    · exact h.low z h1
    · rw [List.mem_singleton.1 h1]; exact hl
  · have hv := h.val
    obtain ⟨P, hP⟩ : ∃ P, P = 4294967296 ^ i := ⟨_, rfl⟩
    have e1 : valW (b.take (i + 1)) = valW (b.take i) + P * y := by
      rcases hb with ⟨h1, _⟩ | ⟨h1, rfl⟩
      · rw [valW_take h1, hP]
      · rw [take_all (by omega), take_all h1]; simp
    rw [valW_snoc, h.len, e1, valW_take ha, Nat.pow_succ, ← hP]
    rw [← hP] at hv
    have e2 : P * (lo + y + c) = P * (x + 4294967296 * c2) := by rw [he]
    rw [Nat.mul_add, Nat.mul_add, Nat.mul_add] at e2
    have e3 : P * (4294967296 * c2) = P * 4294967296 * c2 := (Nat.mul_assoc _ _ _).symm
    omega
theorem SubSt.ends {a b R : List Nat} {i c : Nat} (h : SubSt a b R i c) (ha : a.length = i) (hb : b.length ≤ i) (hle : valW b ≤ valW a) : valW R = valW a - valW b := by
  have hv := h.val
  rw [take_all hb, take_all (by omega)] at hv
  have hr := valW_lt R h.low
  rw [h.len] at hr
  have hc := h.carry
  obtain ⟨P, hP⟩ : ∃ P, P = 4294967296 ^ i := ⟨_, rfl⟩
  rw [← hP] at hr hv
  obtain rfl | rfl : c = 0 ∨ c = 1 := by omega
  · omega
  · omega
end Go.Proofs.YtjbkfkgdpbjliaaDoor
