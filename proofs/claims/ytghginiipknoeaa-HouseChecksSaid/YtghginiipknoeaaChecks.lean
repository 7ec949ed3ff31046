/-
  For every config, house.Check answers what the document's CheckConfig answers (no condition): the two functions, each by its walk.
-/
import Derived.Test.YtghginiipknoeaaKinds
namespace Go.Proofs.Ytghginiipknoeaa
open Go.RowKit

def badQ (room : Int) (q : Int) : Bool := decide (q < 0) || decide (room < q)
def wrongC (room : Int) (n : Nat) : Bool := decide (room < 0) || decide (200000 < room) || decide (n < 1) || decide (64 < n)
/-- What a config's check answers. -/
def checkF (room : Int) (qs : List Int) : Int := if wrongC room qs.length then 3 else if qs.any (badQ room) then 3 else if room < qs.sum then 5 else 0
theorem check_wrong {room : Int} {qs : List Int} (h : room < 0 ∨ 200000 < room ∨ qs.length < 1 ∨ 64 < qs.length) : checkF room qs = 3 := by
  have : wrongC room qs.length = true := by simp only [wrongC, Bool.or_eq_true, decide_eq_true_eq]; omega
  rw [checkF, if_pos this]
theorem check_bad {room q : Int} {qs : List Int} {k : Nat} (h : qs[k]? = some q) (hq : q < 0 ∨ room < q) : checkF room qs = 3 := by
  have : qs.any (badQ room) = true := List.any_eq_true.2 ⟨q, List.mem_of_getElem? h, by simpa [badQ] using hq⟩
  rw [checkF, if_pos this]; split <;> rfl
structure ChkInv (room : Int) (qs : List Int) (k : Nat) (t : Int) : Prop where
  sum : t = (qs.take k).sum
  all : ∀ q ∈ qs.take k, 0 ≤ q ∧ q ≤ room
  lo : 0 ≤ t
  hi : t ≤ 200000 * k
theorem chk_zero (room : Int) (qs : List Int) : ChkInv room qs 0 0 := ⟨by simp, by simp, by omega, by omega⟩
theorem chk_succ {room q t : Int} {qs : List Int} {k : Nat} (hI : ChkInv room qs k t) (h : qs[k]? = some q) (h0 : 0 ≤ q) (h1 : q ≤ room) (h2 : room ≤ 200000) : ChkInv room qs (k + 1) (t + q) := by
  have e : qs.take (k + 1) = qs.take k ++ [q] := by rw [List.take_add_one, h]; rfl
  refine ⟨by rw [e, List.sum_append, ← hI.sum]; simp, fun p hp => ?_, by have := hI.lo; omega, by have := hI.hi; omega⟩
  rw [e] at hp
  rcases List.mem_append.1 hp with hp | hp
  · exact hI.all p hp
  · simp at hp; subst hp; exact ⟨h0, h1⟩
theorem chk_end {room t : Int} {qs : List Int} {k : Nat} (hI : ChkInv room qs k t) (hk : k = qs.length) (h0 : 0 ≤ room) (h1 : room ≤ 200000) (h2 : 1 ≤ qs.length) (h3 : qs.length ≤ 64) : checkF room qs = if room < t then 5 else 0 := by
  have e1 : wrongC room qs.length = false := by simp only [wrongC, Bool.or_eq_false_iff, decide_eq_false_iff_not]; omega
  have e2 : qs.any (badQ room) = false := by
    rw [Bool.eq_false_iff]
    intro h
    obtain ⟨q, hq, hb⟩ := List.any_eq_true.1 h
    have := hI.all q (by rw [hk, List.take_length]; exact hq)
    simp [badQ] at hb
    omega
  have e3 := hI.sum
  rw [hk, List.take_length] at e3
  rw [checkF, e1, e2, ← e3]
  simp

theorem fiveC (room : Int) (n : Nat) : room < 0 ∨ (0 ≤ room ∧ 200000 < room) ∨ (0 ≤ room ∧ room ≤ 200000 ∧ n < 1) ∨ (0 ≤ room ∧ room ≤ 200000 ∧ 1 ≤ n ∧ 64 < n) ∨ (0 ≤ room ∧ room ≤ 200000 ∧ 1 ≤ n ∧ n ≤ 64) := by omega

set_option maxRecDepth 100000 in
set_option maxHeartbeats 2000000 in
theorem check_any (room : Int) (qs : List Int) (a : Option Addr) (cap : Nat) (w : World) (hs : Sl w 1 8 a qs.length cap (qs.flatMap encInt)) :
    Calls Try.prog 24 #[.agg #[.int .i64 room, .slice a qs.length cap]] w fun e w' => e = .returned (.int .i64 (checkF room qs)) ∧ Below w.heap.size w w' := by
  rcases fiveC room qs.length with h | ⟨h1, h⟩ | ⟨h1, h2, h⟩ | ⟨h1, h2, h3, h⟩ | ⟨h1, h2, h3, h4⟩
  rotate_right
  · obtain ⟨b, o, rfl, hrow⟩ := hs.row (by omega)
    have hb := hs.lt (by omega) (by omega)
    go_enter Try.func24, Try.ntmps24
    go_wp2
    go_loop [3, 29] (fun t i => ∃ (k : Nat) (s : Int), k ≤ qs.length ∧ i = .int .i64 k ∧ t = .int .i64 s ∧ ChkInv room qs k s) (fun _ i => qs.length - (intOf i).toNat)
    case atStart => exact ⟨0, 0, Nat.zero_le _, rfl, rfl, chk_zero _ _⟩
    case round =>
      obtain ⟨k, s, hk, rfl, rfl, hI⟩ := hrel
      have lo := hI.lo
      have hi := hI.hi
      by_cases hlt : k < qs.length
      · obtain ⟨q, hq⟩ : ∃ q, qs[k]? = some q := ⟨qs[k], List.getElem?_eq_getElem hlt⟩
        have e0 := hrow _ _ (flat_at (k := 1) (enc := encInt) (by omega) (fun _ => rfl) qs k 0 q hq (by omega))
        simp only [Nat.mul_one, Nat.add_zero] at e0
        have g0 : w.cell? ⟨b, o + k, none⟩ = some (.int .i64 q) := e0
        clear e0
        have Hq := Lib.hid hq
        clear hq
        rcases (show q < 0 ∨ (0 ≤ q ∧ room < q) ∨ (0 ≤ q ∧ q ≤ room) by omega) with c | ⟨c1, c⟩ | ⟨c1, c2⟩
        · go_wp2
          go_ret
          exact ⟨by rw [check_bad Hq.out (Or.inl c)]; rfl, (Below.refl _ _).alloc (Nat.le_refl _) _⟩
        · go_wp2
          go_ret
          exact ⟨by rw [check_bad Hq.out (Or.inr c)]; rfl, (Below.refl _ _).alloc (Nat.le_refl _) _⟩
        · go_wp2
          go_round
          case rel => exact ⟨k + 1, s + q, by omega, by go_num, rfl, chk_succ hI Hq.out c1 c2 h2⟩
          case measure => simp [intOf]; omega
      · have hE := chk_end hI (by omega) h1 h2 h3 h4
        have HE := Lib.hid hE
        clear hE
        by_cases c : room < s
        · go_wp2
          go_ret
          exact ⟨by rw [HE.out, if_pos c]; rfl, (Below.refl _ _).alloc (Nat.le_refl _) _⟩
        · go_wp2
          go_ret
          exact ⟨by rw [HE.out, if_neg (by omega)]; rfl, (Below.refl _ _).alloc (Nat.le_refl _) _⟩
  all_goals
    go_enter Try.func24, Try.ntmps24
    go_wp2
    go_ret
    exact ⟨by rw [check_wrong (by omega)]; rfl, (Below.refl _ _).alloc (Nat.le_refl _) _⟩

set_option maxRecDepth 100000 in
set_option maxHeartbeats 2000000 in
theorem refCheck_any (room : Int) (qs : List Int) (a : Option Addr) (cap : Nat) (w : World) (hs : Sl w 1 8 a qs.length cap (qs.flatMap encInt)) :
    Calls Try.prog 25 #[.agg #[.int .i64 room, .slice a qs.length cap]] w fun e w' => e = .returned (.int .i64 (checkF room qs)) ∧ Below w.heap.size w w' := by
  rcases fiveC room qs.length with h | ⟨h1, h⟩ | ⟨h1, h2, h⟩ | ⟨h1, h2, h3, h⟩ | ⟨h1, h2, h3, h4⟩
  rotate_right
  · obtain ⟨b, o, rfl, hrow⟩ := hs.row (by omega)
    have hb := hs.lt (by omega) (by omega)
    go_enter Try.func25, Try.ntmps25
    go_wp2
    go_loop [3, 31] (fun t i => ∃ (k : Nat) (s : Int), k ≤ qs.length ∧ i = .int .i64 k ∧ t = .int .i64 (room - s) ∧ ChkInv room qs k s) (fun _ i => qs.length - (intOf i).toNat)
    case atStart => exact ⟨0, 0, Nat.zero_le _, rfl, by simp, chk_zero _ _⟩
    case round =>
      obtain ⟨k, s, hk, rfl, rfl, hI⟩ := hrel
      have lo := hI.lo
      have hi := hI.hi
      by_cases hlt : k < qs.length
      · obtain ⟨q, hq⟩ : ∃ q, qs[k]? = some q := ⟨qs[k], List.getElem?_eq_getElem hlt⟩
        have e0 := hrow _ _ (flat_at (k := 1) (enc := encInt) (by omega) (fun _ => rfl) qs k 0 q hq (by omega))
        simp only [Nat.mul_one, Nat.add_zero] at e0
        have g0 : w.cell? ⟨b, o + k, none⟩ = some (.int .i64 q) := e0
        clear e0
        have Hq := Lib.hid hq
        clear hq
        rcases (show q < 0 ∨ (0 ≤ q ∧ room < q) ∨ (0 ≤ q ∧ q ≤ room) by omega) with c | ⟨c1, c⟩ | ⟨c1, c2⟩
        · go_wp2
          go_ret
          exact ⟨by rw [check_bad Hq.out (Or.inl c)]; rfl, (Below.refl _ _).alloc (Nat.le_refl _) _⟩
        · go_wp2
          go_ret
          exact ⟨by rw [check_bad Hq.out (Or.inr c)]; rfl, (Below.refl _ _).alloc (Nat.le_refl _) _⟩
        · go_wp2
          go_round
          case rel => exact ⟨k + 1, s + q, by omega, by go_num, by simp; omega, chk_succ hI Hq.out c1 c2 h2⟩
          case measure => simp [intOf]; omega
      · have hE := chk_end hI (by omega) h1 h2 h3 h4
        have HE := Lib.hid hE
        clear hE
        by_cases c : room < s
        · have c' : room - s < 0 := by omega
          go_wp2
          go_ret
          exact ⟨by rw [HE.out, if_pos c]; rfl, (Below.refl _ _).alloc (Nat.le_refl _) _⟩
        · have c' : 0 ≤ room - s := by omega
          go_wp2
          go_ret
          exact ⟨by rw [HE.out, if_neg (by omega)]; rfl, (Below.refl _ _).alloc (Nat.le_refl _) _⟩
  all_goals
    go_enter Try.func25, Try.ntmps25
    go_wp2
    go_ret
    exact ⟨by rw [check_wrong (by omega)]; rfl, (Below.refl _ _).alloc (Nat.le_refl _) _⟩
end Go.Proofs.Ytghginiipknoeaa
