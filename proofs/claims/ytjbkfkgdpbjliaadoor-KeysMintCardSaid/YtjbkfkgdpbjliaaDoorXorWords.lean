/-
  Whole numbers that are not below 0: low, of, Xor.
-/
import Derived.Test.YtjbkfkgdpbjliaaDoorShiftLeft
import Derived.Test.YtjbkfkgdpbjliaaDoorFoot
import Derived.Laws.CopyRow
import Derived.Laws.IdiomCopy
namespace Go.Proofs.YtjbkfkgdpbjliaaDoor
set_option maxRecDepth 100000
open Go.RowKit

theorem xor_two (x y V U : Nat) (hx : x < 4294967296) (hy : y < 4294967296) : (x + 4294967296 * V) ^^^ (y + 4294967296 * U) = (x ^^^ y) + 4294967296 * (V ^^^ U) := by
  have hxy : x ^^^ y < 2 ^ 32 := Nat.xor_lt_two_pow (by omega) (by omega)
  apply Nat.eq_of_testBit_eq
  intro i
  rw [Nat.testBit_xor, Nat.add_comm x, Nat.add_comm y, Nat.add_comm (x ^^^ y)]
  rw [show (4294967296 : Nat) = 2 ^ 32 from rfl, Nat.testBit_two_pow_mul_add _ (by omega), Nat.testBit_two_pow_mul_add _ (by omega), Nat.testBit_two_pow_mul_add _ hxy]
  split
  · rw [Nat.testBit_xor]
  · rw [Nat.testBit_xor]
def xorL : List Nat → List Nat → List Nat
  | x :: a, y :: b => (x ^^^ y) :: xorL a b
  | _, _ => []
theorem xorL_len : ∀ {a b : List Nat}, a.length = b.length → (xorL a b).length = a.length
  | [], [], _ => rfl
  | _ :: a, _ :: b, h => by rw [xorL, List.length_cons, List.length_cons, xorL_len (by simpa using h)]
  | [], _ :: _, h => by simp at h
  | _ :: _, [], h => by simp at h
theorem xorL_at : ∀ {a b : List Nat} {i x y : Nat}, a[i]? = some x → b[i]? = some y → (xorL a b)[i]? = some (x ^^^ y)
  | [], _, _, _, _, h, _ => by simp at h
  | _ :: _, [], _, _, _, _, h => by simp at h
  | p :: a, q :: b, 0, x, y, h, k => by
    obtain rfl : p = x := by simpa using h
    obtain rfl : q = y := by simpa using k
    rfl
  | p :: a, q :: b, i + 1, x, y, h, k => by
    rw [xorL, List.getElem?_cons_succ]
    exact xorL_at (by simpa using h) (by simpa using k)
theorem xorL_low : ∀ {a b : List Nat}, (∀ x ∈ a, x < 4294967296) → (∀ x ∈ b, x < 4294967296) → ∀ x ∈ xorL a b, x < 4294967296
  | [], _, _, _, x, h => by simp [xorL] at h
  | _ :: _, [], _, _, x, h => by simp [xorL] at h
  | p :: a, q :: b, ha, hb, x, h => by
    rw [xorL] at h
    rcases List.mem_cons.1 h with rfl | h
    · have h1 := ha p (by simp)
      have h2 := hb q (by simp)
      exact Nat.xor_lt_two_pow (n := 32) h1 h2
    · exact xorL_low (fun y hy => ha y (List.mem_cons_of_mem _ hy)) (fun y hy => hb y (List.mem_cons_of_mem _ hy)) x h
theorem xorL_val : ∀ {a b : List Nat}, a.length = b.length → (∀ x ∈ a, x < 4294967296) → (∀ x ∈ b, x < 4294967296) → valW (xorL a b) = valW a ^^^ valW b
  | [], [], _, _, _ => rfl
  | [], _ :: _, h, _, _ => by simp at h
  | _ :: _, [], h, _, _ => by simp at h
  | p :: a, q :: b, h, ha, hb => by
    have ih := xorL_val (a := a) (b := b) (by simpa using h) (fun y hy => ha y (List.mem_cons_of_mem _ hy)) (fun y hy => hb y (List.mem_cons_of_mem _ hy))
    show (p ^^^ q) + 4294967296 * valW (xorL a b) = (p + 4294967296 * valW a) ^^^ (q + 4294967296 * valW b)
    rw [ih, xor_two p q _ _ (ha p (by simp)) (hb q (by simp))]
theorem valW_pad (a : List Nat) (k : Nat) : valW (a ++ List.replicate k 0) = valW a := by
  rw [valW_append, valW_zeros _ (fun x hx => (List.mem_replicate.1 hx).2)]
  simp
theorem pad_low {a : List Nat} (h : ∀ x ∈ a, x < 4294967296) (k : Nat) : ∀ x ∈ a ++ List.replicate k 0, x < 4294967296 := fun x hx => by
  rcases List.mem_append.1 hx with h1 | h1
  · exact h x h1
  · rw [(List.mem_replicate.1 h1).2]; omega
theorem sizeWord : (Tryd.prog.info? 66).map (·.size) = some 1 := by kernel_rfl
theorem copyW (w : World) (g k : Nat) (A : List Nat) (a : Option Addr) (c : Nat) (hr : RowL w g (List.replicate k 0)) (hk : A.length ≤ k) (hs : Sl w 1 4 a A.length c (A.map u32V)) :
    ∃ w', (Builtin.copy_ #[40, 40] 3 #[.slice (some ⟨g, 0, none⟩) k k, .slice a A.length c]).run Tryd.prog w = .ok (.int .i64 A.length) w' ∧ RowL w' g (A ++ List.replicate (k - A.length) 0) ∧ Keeps (fun i => i = g) w w' := by
  have hmin : Nat.min A.length k = A.length := Nat.min_eq_left hk
  by_cases h0 : A.length = 0
  · have hA : A = [] := List.eq_nil_of_length_eq_zero h0
    subst hA
    exact ⟨w, run_copy_none w _ _ _ 66 _ _ _ _ _ _ Tryd.underlying40 sizeWord (by rw [hmin]; rfl), hr, Keeps.refl _ _⟩
  · obtain ⟨q, o, rfl, hrow⟩ := hs.row (by omega)
    have h := run_copy_row (P := Tryd.prog) w 40 40 3 66 g 0 k k ⟨q, o, none⟩ A.length c _ 66 (A.map u32V) Tryd.underlying40 sizeWord hr (by rw [List.length_map, hmin]) (fun j u hu => by rw [Addr.add_lit]; exact hrow j u hu) (by simp; omega) (fun u hu => by obtain ⟨x, _, rfl⟩ := List.mem_map.1 hu; rfl)
    rw [List.length_map] at h
    refine ⟨_, h, ?_, ?_⟩
    · unfold RowL
      rw [setRow_heap w g _ _ _ _ hr]
      congr 3
      simp
    · exact ⟨rfl, rfl, rfl, Nat.le_of_eq (setRow_size w g _).symm, fun i _ hi => setRow_other w g i _ (fun e => hi e)⟩
end Go.Proofs.YtjbkfkgdpbjliaaDoor
