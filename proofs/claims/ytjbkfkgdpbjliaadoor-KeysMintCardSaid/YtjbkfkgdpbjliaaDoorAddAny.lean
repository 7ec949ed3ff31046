/-
  Whole numbers: sums of two numbers not below 0, of any size; Add.
-/
import Derived.Test.YtjbkfkgdpbjliaaDoorSums
import Derived.Test.YtjbkfkgdpbjliaaDoorBigNeg
namespace Go.Proofs.YtjbkfkgdpbjliaaDoor
set_option maxRecDepth 100000
open Go.RowKit

set_option maxHeartbeats 1000000 in
theorem sumZ_any (s : Bool) (n m : Nat) (u v : Value) (w : World) (hnm : n + m < bigTop) (hu : AbsOf w u n) (hv : AbsOf w v m) :
    Calls Tryd.prog 38 #[.bool s, u, .bool s, v] w fun e w' => (∃ r, e = .returned (.tuple #[.bool s, r]) ∧ AbsOf w' r (n + m)) ∧ Below w.heap.size w w' := by
  have HA := Lib.hid (add_any n m u v w hnm hu hv)
  clear hu hv
  cases s
  all_goals
    go_enter Tryd.func38, Tryd.ntmps38
    go_wp2_with fail
    refine HA.out.mono ?_
    rintro e w1 ⟨⟨r, rfl, hr⟩, hb⟩
    have HR := Lib.hid hr
    have HB := Lib.hid hb
    clear hr hb
    go_wp2_with fail
    go_ret2
    exact ⟨⟨r, rfl, HR.out⟩, HB.out⟩
/-- A sign and an amount as a whole number. -/
def sgn (s : Bool) (n : Nat) : Int := if s then -(n : Int) else (n : Int)
theorem sumS_any (s t : Bool) (n m : Nat) (u v : Value) (w : World) (h0 : s = t ∨ 0 < n ∨ 0 < m) (hnm : n + m < bigTop) (hu : AbsOf w u n) (hv : AbsOf w v m) :
    Calls Tryd.prog 38 #[.bool s, u, .bool t, v] w fun e w' => (∃ s' r k, e = .returned (.tuple #[.bool s', r]) ∧ AbsOf w' r k ∧ sgn s' k = sgn s n + sgn t m) ∧ Below w.heap.size w w' := by
  by_cases hst : s = t
  · subst hst
    refine (sumZ_any s n m u v w hnm hu hv).mono ?_
    rintro e w' ⟨⟨r, h1, h2⟩, h3⟩
    exact ⟨⟨s, r, _, h1, h2, by cases s <;> simp [sgn] <;> omega⟩, h3⟩
  · by_cases hle : m ≤ n
    · refine (sum_less s t n m u v w hst (by rcases h0 with h | h | h; exact absurd h hst; exact h; omega) (by omega) hle hu hv).mono ?_
      rintro e w' ⟨⟨r, h1, h2⟩, h3⟩
      exact ⟨⟨s, r, _, h1, h2, by cases s <;> cases t <;> simp [sgn] at hst ⊢ <;> omega⟩, h3⟩
    · refine (sum_more s t n m u v w hst (by omega) (by omega) hu hv).mono ?_
      rintro e w' ⟨⟨r, h1, h2⟩, h3⟩
      exact ⟨⟨t, r, _, h1, h2, by cases s <;> cases t <;> simp [sgn] at hst ⊢ <;> omega⟩, h3⟩
end Go.Proofs.YtjbkfkgdpbjliaaDoor
