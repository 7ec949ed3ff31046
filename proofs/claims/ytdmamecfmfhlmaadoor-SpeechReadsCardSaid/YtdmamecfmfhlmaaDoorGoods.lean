/-
  What Good and the document's GoodRule answer.
-/
import Derived.Test.YtdmamecfmfhlmaaDoorRuleLives
namespace Go.Proofs.YtdmamecfmfhlmaaDoor
set_option maxRecDepth 100000
open Go.RowKit

/-- Whether a rule is one. -/
def goodF (b l : Int) : Bool := decide (0 ≤ b) && decide (b < 512) && decide (0 ≤ l) && decide (l < 512) && (b % 2 == 0)
theorem sixR (b l : Int) : b < 0 ∨ (0 ≤ b ∧ 512 ≤ b) ∨ (0 ≤ b ∧ b < 512 ∧ l < 0) ∨ (0 ≤ b ∧ b < 512 ∧ 0 ≤ l ∧ 512 ≤ l) ∨ (0 ≤ b ∧ b < 512 ∧ 0 ≤ l ∧ l < 512) := by omega
theorem good_no {b l : Int} (h : b < 0 ∨ 512 ≤ b ∨ l < 0 ∨ 512 ≤ l) : goodF b l = false := by
  rw [Bool.eq_false_iff]; intro h'; simp [goodF] at h'; omega
theorem good_in {b l : Int} (h0 : 0 ≤ b) (h1 : b < 512) (h2 : 0 ≤ l) (h3 : l < 512) : goodF b l = (b % 2 == 0) := by
  simp [goodF, h0, h1, h2, h3]

set_option maxHeartbeats 1000000 in
theorem good_any (b l : Int) (w : World) :
    Calls Tryd.prog 69 #[.agg #[.int .i64 b, .int .i64 l]] w fun e w' => e = .returned (.bool (goodF b l)) ∧ Below w.heap.size w w' := by
  rcases sixR b l with h0 | ⟨h0, h1⟩ | ⟨h0, h1, h2⟩ | ⟨h0, h1, h2, h3⟩ | ⟨h0, h1, h2, h3⟩
  rotate_right
  · rw [good_in h0 h1 h2 h3]
    go_enter Tryd.func69, Tryd.ntmps69
    go_wp2
    go_ret
    exact ⟨by simp [and_one_i64], (Below.refl _ _).alloc (Nat.le_refl _) _⟩
  all_goals
    rw [good_no (by omega)]
    go_enter Tryd.func69, Tryd.ntmps69
    go_wp2
    go_ret
    exact ⟨rfl, (Below.refl _ _).alloc (Nat.le_refl _) _⟩
set_option maxHeartbeats 1000000 in
theorem refGood_any (b l : Int) (w : World) :
    Calls Tryd.prog 74 #[.agg #[.int .i64 b, .int .i64 l]] w fun e w' => e = .returned (.bool (goodF b l)) ∧ Below w.heap.size w w' := by
  rcases sixR b l with h0 | ⟨h0, h1⟩ | ⟨h0, h1, h2⟩ | ⟨h0, h1, h2, h3⟩ | ⟨h0, h1, h2, h3⟩
  rotate_right
  · rw [good_in h0 h1 h2 h3]
    have c1 : b ≤ 511 := by omega
    have c2 : l ≤ 511 := by omega
    go_enter Tryd.func74, Tryd.ntmps74
    go_wp2
    go_ret
    exact ⟨by simp, (Below.refl _ _).alloc (Nat.le_refl _) _⟩
  all_goals
    rw [good_no (by omega)]
    go_enter Tryd.func74, Tryd.ntmps74
    go_wp2
    go_ret
    exact ⟨rfl, (Below.refl _ _).alloc (Nat.le_refl _) _⟩
end Go.Proofs.YtdmamecfmfhlmaaDoor
