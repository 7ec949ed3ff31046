/-
  The long division by 2^64 (moved to the left by 31), in plain Lean.
-/
import Derived.Test.YtjbkfkgdpbjliaaDoorXorWords
namespace Go.Proofs.YtjbkfkgdpbjliaaDoor
set_option maxRecDepth 100000
open Go.RowKit

theorem words64 : wordsN 18446744073709551616 = [0, 0, 1] := by
  have h := canon_words (a := [0, 0, 1]) (by decide) (by decide)
  have e : valW [0, 0, 1] = 18446744073709551616 := by simp [valW]
  rw [e] at h
  exact h.symm
theorem words95 : wordsN (2147483648 * 18446744073709551616) = [0, 0, 2147483648] := by
  have h := canon_words (a := [0, 0, 2147483648]) (by decide) (by decide)
  have e : valW [0, 0, 2147483648] = 2147483648 * 18446744073709551616 := by simp [valW]
  rw [e] at h
  exact h.symm
def d95 : Nat := 39614081257132168796771975168
/-- The rounds above j1 are done: the row U still holds n * 2^31 up to 2^95. -/
structure DivS (n : Nat) (U : List Nat) (j1 : Nat) : Prop where
  val : valW U % d95 = 2147483648 * n % d95
  low : ∀ x ∈ U, x < 4294967296
  far : ∀ i, j1 + 3 ≤ i → i < U.length → U[i]? = some 0
  top : ∀ x, U[j1 + 2]? = some x → x < 2147483648
theorem valW_far {U : List Nat} {k : Nat} (h : ∀ i, k ≤ i → i < U.length → U[i]? = some 0) : valW U = valW (U.take k) := by
  have e : U = U.take k ++ U.drop k := (List.take_append_drop k U).symm
  rw [e, valW_append, valW_zeros (U.drop k) (fun x hx => by
    obtain ⟨i, hi⟩ := List.mem_iff_getElem?.1 hx
    rw [List.getElem?_drop] at hi
    have hl : k + i < U.length := (List.getElem?_eq_some_iff.1 hi).1
    have h2 := h (k + i) (by omega) hl
    rw [h2] at hi
    exact (Option.some.inj hi).symm)]
  simp
theorem DivS.ends {n : Nat} {U : List Nat} (h : DivS n U 0) (hl : 3 ≤ U.length) : valW U / 2147483648 = n % 18446744073709551616 := by
  have e1 := valW_far (k := 3) (U := U) (fun i hi hi2 => h.far i (by omega) hi2)
  obtain ⟨x, hx⟩ : ∃ x, U[2]? = some x := ⟨U[2], by simp⟩
  have e2 := valW_take hx
  have e3 := valW_lt (U.take 2) (fun y hy => h.low y (List.mem_of_mem_take hy))
  have hx2 := h.top x hx
  have e4 : (U.take 2).length = 2 := by rw [List.length_take]; omega
  rw [e4] at e3
  have e5 := h.val
  unfold d95 at e5
  have e6 : valW U < 39614081257132168796771975168 := by
    rw [e1, e2]
    have : (4294967296 : Nat) ^ 2 = 18446744073709551616 := by decide
    rw [this] at e3 ⊢
    omega
  omega
theorem DivS.next {n : Nat} {U : List Nat} {j x y : Nat} (h : DivS n U (j + 1)) (hx : U[j + 3]? = some x) (hy : U[j + 2]? = some y) :
    DivS n ((U.set (j + 2) (y % 2147483648)).set (j + 3) 0) j := by
  have hx1 : x < 2147483648 := h.top x hx
  have hy1 := h.low y (List.mem_of_getElem? hy)
  have v1 := valW_set (y % 2147483648) hy
  have hx' : (U.set (j + 2) (y % 2147483648))[j + 3]? = some x := by rw [List.getElem?_set_ne (by omega)]; exact hx
  have v2 := valW_set 0 hx'
  have hl := (List.getElem?_eq_some_iff.1 hx).1
  refine ⟨?_, low_set (low_set h.low (by omega)) (by omega), fun i hi hl2 => ?_, fun z hz => ?_⟩
  · rw [← h.val]
    obtain ⟨P, hP⟩ : ∃ P, P = 4294967296 ^ j := ⟨_, rfl⟩
    have p2 : 4294967296 ^ (j + 2) = 18446744073709551616 * P := by rw [hP, Nat.pow_add, Nat.mul_comm]
    have p3 : 4294967296 ^ (j + 3) = 79228162514264337593543950336 * P := by rw [hP, Nat.pow_add, Nat.mul_comm]
    rw [p2] at v1
    rw [p3] at v2
    obtain ⟨A, hA⟩ : ∃ A, A = valW ((U.set (j + 2) (y % 2147483648)).set (j + 3) 0) := ⟨_, rfl⟩
    obtain ⟨B, hB⟩ : ∃ B, B = valW (U.set (j + 2) (y % 2147483648)) := ⟨_, rfl⟩
    rw [← hB] at v1 v2
    rw [← hA] at v2 ⊢
    have e1 : 18446744073709551616 * P * y = 18446744073709551616 * P * (y % 2147483648) + d95 * (P * (y / 2147483648)) := by
      have : y = y % 2147483648 + 2147483648 * (y / 2147483648) := (Nat.mod_add_div _ _).symm
      have hd : d95 = 18446744073709551616 * 2147483648 := by decide
      rw [hd, show 18446744073709551616 * P * y = 18446744073709551616 * P * (y % 2147483648 + 2147483648 * (y / 2147483648)) from by rw [← this], Nat.mul_add]
      congr 1
      simp only [Nat.mul_assoc, Nat.mul_left_comm]
    have e2 : 79228162514264337593543950336 * P * x = d95 * (2 * (P * x)) := by
      have hd : 79228162514264337593543950336 = d95 * 2 := by decide
      rw [hd]
      simp only [Nat.mul_assoc]
    have e3 : valW U = A + d95 * (P * (y / 2147483648) + 2 * (P * x)) := by
      rw [Nat.mul_add]
      omega
    rw [e3, Nat.add_mul_mod_self_left]
  · rcases Nat.lt_or_eq_of_le hi with h1 | h1
    · rw [List.getElem?_set_ne (by omega), List.getElem?_set_ne (by omega)]
      exact h.far i (by omega) (by rwa [List.length_set, List.length_set] at hl2)
    · subst h1
      rw [List.getElem?_set_self (by rw [List.length_set]; exact hl)]
  · rw [List.getElem?_set_ne (by omega), List.getElem?_set_self (by omega)] at hz
    have := Option.some.inj hz
    omega
theorem DivS.start {n la : Nat} {A : List Nat} (hA : A = wordsN (2147483648 * n)) (hn : n < 4294967296 ^ la) (h3 : 3 ≤ la)  : DivS n (A ++ List.replicate (la + 2 - A.length) 0) (la - 1) := by
  have hv : valW A = 2147483648 * n := by rw [hA, wordsN_val]
  have hlow : ∀ x ∈ A, x < 4294967296 := by rw [hA]; exact wordsN_lt _
  have hlt : A.length ≤ la + 1 := by
    rw [hA]
    refine wordsN_lenk (la + 1) ?_
    rw [Nat.pow_succ]
    omega
  refine ⟨by rw [valW_pad, hv], pad_low hlow _, fun i hi hl2 => ?_, fun x hx => ?_⟩
  · rw [List.length_append, List.length_replicate] at hl2
    omega
  · rw [show la - 1 + 2 = la + 1 from by omega, List.getElem?_append_right hlt, List.getElem?_replicate] at hx
    split at hx
    · cases hx; omega
    · cases hx
theorem set_same : ∀ {U : List Nat} {i z : Nat}, U[i]? = some z → U.set i z = U
  | [], _, _, h => by simp at h
  | a :: U, 0, z, h => by simp at h; rw [h]; rfl
  | a :: U, i + 1, z, h => by
    rw [List.set_cons_succ, set_same (U := U) (by simpa using h)]
theorem div_inner {U : List Nat} {j x y g ii : Nat} (hy : U[j + 2]? = some y) (hx1 : x < 2147483648) (hy1 : y < 4294967296) (hg : g = (x * 4294967296 + y) / 2147483648) (hl : ∀ z ∈ U, z < 4294967296) (hii : ii < 3) :
    ∃ vv p lo hi z zn, ([0, 0, 2147483648] : List Nat)[ii]? = some vv ∧ p = g * vv ∧ p < 18446744073709551616 ∧ lo = p % 4294967296 ∧ hi = p / 4294967296 ∧ U[ii + j]? = some z ∧ z < 4294967296 ∧ lo + zn = z ∧ (ii + 1 < 3 → hi = 0 ∧ U.set (ii + j) zn = U) ∧ (ii + 1 = 3 → hi = x ∧ U.set (ii + j) zn = U.set (j + 2) (y % 2147483648)) := by
  have hlen := (List.getElem?_eq_some_iff.1 hy).1
  have low : ∀ i, i < 2 → ∃ z, U[i + j]? = some z ∧ z < 4294967296 := fun i hi => by
    obtain ⟨z, hz⟩ : ∃ z, U[i + j]? = some z := ⟨U[i + j]'(by omega), by simp⟩
    exact ⟨z, hz, hl z (List.mem_of_getElem? hz)⟩
  obtain rfl | rfl | rfl : ii = 0 ∨ ii = 1 ∨ ii = 2 := by omega
  · obtain ⟨z, hz, hz1⟩ := low 0 (by omega)
    exact ⟨0, 0, 0, 0, z, z, rfl, by omega, by omega, rfl, rfl, hz, hz1, by omega, fun _ => ⟨rfl, set_same hz⟩, fun h => absurd h (by omega)⟩
  · obtain ⟨z, hz, hz1⟩ := low 1 (by omega)
    exact ⟨0, 0, 0, 0, z, z, rfl, by omega, by omega, rfl, rfl, hz, hz1, by omega, fun _ => ⟨rfl, set_same hz⟩, fun h => absurd h (by omega)⟩
  · refine ⟨2147483648, g * 2147483648, _, _, y, y % 2147483648, rfl, rfl, by omega, rfl, rfl, by rw [Nat.add_comm]; exact hy, hy1, by omega, fun h => absurd h (by omega), fun _ => ⟨by omega, by rw [Nat.add_comm 2 j]⟩⟩
end Go.Proofs.YtjbkfkgdpbjliaaDoor
