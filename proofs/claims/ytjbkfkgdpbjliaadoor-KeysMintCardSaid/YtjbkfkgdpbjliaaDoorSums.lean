/-
  Whole numbers: sums of two numbers of different signs.
-/
import Derived.Test.YtjbkfkgdpbjliaaDoorSub
import Derived.Test.YtjbkfkgdpbjliaaDoorBigCmp
namespace Go.Proofs.YtjbkfkgdpbjliaaDoor
set_option maxRecDepth 100000
open Go.RowKit

set_option maxHeartbeats 2000000 in
theorem sum_less (s t : Bool) (n m : Nat) (u v : Value) (w : World) (hst : s ≠ t) (hn0 : 0 < n) (hn : n < bigTop) (hmn : m ≤ n) (hu : AbsOf w u n) (hv : AbsOf w v m) :
    Calls Tryd.prog 38 #[.bool s, u, .bool t, v] w fun e w' => (∃ r, e = .returned (.tuple #[.bool s, r]) ∧ AbsOf w' r (n - m)) ∧ Below w.heap.size w w' := by
  have hc0 : 0 ≤ cmpN n m := by
    rcases Nat.lt_or_eq_of_le hmn with h | h
    · rw [cmpN_more h]; decide
    · rw [h, cmpN_same]; decide
  have HS := Lib.hid (fun w' (hb : Below w.heap.size w w') => sub_any n m u v w' hn0 hn hmn (hu.below hb) (hv.below hb))
  have HC := cmp_any n m u v w hn hu hv
  obtain ⟨cv, hcv⟩ : ∃ cv, cv = cmpN n m := ⟨_, rfl⟩
  rw [← hcv] at HC hc0
  have HC := Lib.hid HC
  have t1 : decide (cv ≥ 0) = true := decide_eq_true hc0
  clear hu hv hcv
  rcases s <;> rcases t
  · exact absurd rfl hst
  case true.true => exact absurd rfl hst
  all_goals
    clear hst
    go_enter Tryd.func38, Tryd.ntmps38
    go_wp2_with ((go_at_call 53; with_reducible refine HC.out.mono ?_; rintro e w1 ⟨rfl, hb1⟩))
    go_wp2_with ((go_at_call 43; with_reducible refine (HS.out _ hb1).mono ?_; rintro e w2 ⟨⟨r, rfl, hr⟩, hb2⟩))
    have HB := Lib.hid (hb1.trans (hb2.mono hb1.size))
    have HR := Lib.hid hr
    clear hb1 hb2 hr
    go_wp2_with fail
    go_ret2
    exact ⟨⟨r, rfl, HR.out⟩, HB.out⟩
set_option maxHeartbeats 2000000 in
theorem sum_more (s t : Bool) (n m : Nat) (u v : Value) (w : World) (hst : s ≠ t) (hm : m < bigTop) (hnm : n < m) (hu : AbsOf w u n) (hv : AbsOf w v m) :
    Calls Tryd.prog 38 #[.bool s, u, .bool t, v] w fun e w' => (∃ r, e = .returned (.tuple #[.bool t, r]) ∧ AbsOf w' r (m - n)) ∧ Below w.heap.size w w' := by
  have HS := Lib.hid (fun w' (hb : Below w.heap.size w w') => sub_any m n v u w' (by omega) hm (by omega) (hv.below hb) (hu.below hb))
  have HC := cmp_any n m u v w (by omega) hu hv
  rw [cmpN_less hnm] at HC
  have HC := Lib.hid HC
  clear hu hv
  rcases s <;> rcases t
  · exact absurd rfl hst
  case true.true => exact absurd rfl hst
  all_goals
    clear hst
    go_enter Tryd.func38, Tryd.ntmps38
    go_wp2_with ((go_at_call 53; with_reducible refine HC.out.mono ?_; rintro e w1 ⟨rfl, hb1⟩))
    go_wp2_with ((go_at_call 43; with_reducible refine (HS.out _ hb1).mono ?_; rintro e w2 ⟨⟨r, rfl, hr⟩, hb2⟩))
    have HB := Lib.hid (hb1.trans (hb2.mono hb1.size))
    have HR := Lib.hid hr
    clear hb1 hb2 hr
    go_wp2_with fail
    go_ret2
    exact ⟨⟨r, rfl, HR.out⟩, HB.out⟩
end Go.Proofs.YtjbkfkgdpbjliaaDoor
