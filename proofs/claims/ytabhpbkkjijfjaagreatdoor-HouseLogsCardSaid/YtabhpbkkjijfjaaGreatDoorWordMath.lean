/-
  Whole numbers as lists of 32-bit words, the least first: plain lists.
-/
import Derived.Test.YtabhpbkkjijfjaaGreatDoorBase
namespace Go.Proofs.YtabhpbkkjijfjaaGreatDoor
set_option maxRecDepth 100000

def valW : List Nat → Nat
  | [] => 0
  | x :: r => x + 4294967296 * valW r
theorem valW_append (a b : List Nat) : valW (a ++ b) = valW a + 4294967296 ^ a.length * valW b := by
  induction a with
  | nil => simp [valW]
  | cons x r ih => rw [List.cons_append, valW, ih, valW, List.length_cons, Nat.pow_succ, Nat.mul_add, ← Nat.mul_assoc, Nat.mul_comm 4294967296 (4294967296 ^ r.length), Nat.add_assoc]
theorem valW_one (x : Nat) : valW [x] = x := by simp [valW]
theorem valW_snoc (a : List Nat) (x : Nat) : valW (a ++ [x]) = valW a + 4294967296 ^ a.length * x := by rw [valW_append, valW_one]
theorem valW_zeros (a : List Nat) (h : ∀ x ∈ a, x = 0) : valW a = 0 := by
  induction a with
  | nil => rfl
  | cons x r ih => rw [valW, h x (List.mem_cons_self ..), ih fun y hy => h y (List.mem_cons_of_mem _ hy)]
theorem valW_lt (a : List Nat) (h : ∀ x ∈ a, x < 4294967296) : valW a < 4294967296 ^ a.length := by
  induction a with
  | nil => simp [valW]
  | cons x r ih =>
    have h1 := ih fun y hy => h y (List.mem_cons_of_mem _ hy)
    have h2 := h x (List.mem_cons_self ..)
    rw [valW, List.length_cons, Nat.pow_succ]
    omega
theorem valW_take {a : List Nat} {i x : Nat} (h : a[i]? = some x) : valW (a.take (i + 1)) = valW (a.take i) + 4294967296 ^ i * x := by
  have hl := (List.getElem?_eq_some_iff.1 h).1
  rw [List.take_add_one, h]
  show valW (a.take i ++ [x]) = _
  rw [valW_snoc, List.length_take, Nat.min_eq_left (Nat.le_of_lt hl)]
/-- The words of a number. -/
def wordsF : Nat → Nat → List Nat
  | 0, _ => []
  | f + 1, n => if n = 0 then [] else n % 4294967296 :: wordsF f (n / 4294967296)
def wordsN (n : Nat) : List Nat := wordsF n n
theorem wordsF_fuel : ∀ (f g n : Nat), n ≤ f → n ≤ g → wordsF f n = wordsF g n
  | 0, 0, _, _, _ => rfl
  | 0, g + 1, n, h, _ => by
    obtain rfl : n = 0 := by omega
    rfl
  | f + 1, 0, n, _, h => by
    obtain rfl : n = 0 := by omega
    rfl
  | f + 1, g + 1, n, h1, h2 => by
    unfold wordsF
    by_cases h : n = 0
    · rw [if_pos h, if_pos h]
    · rw [if_neg h, if_neg h, wordsF_fuel f g (n / 4294967296) (by omega) (by omega)]
theorem wordsN_zero : wordsN 0 = [] := rfl
theorem wordsN_pos {n : Nat} (h : 0 < n) : wordsN n = n % 4294967296 :: wordsN (n / 4294967296) := by
  unfold wordsN
  obtain ⟨k, rfl⟩ : ∃ k, n = k + 1 := ⟨n - 1, by omega⟩
  rw [wordsF, if_neg (by omega), wordsF_fuel k ((k + 1) / 4294967296) _ (by omega) (Nat.le_refl _)]
theorem wordsN_one {n : Nat} (h : 0 < n) (h1 : n < 4294967296) : wordsN n = [n] := by
  rw [wordsN_pos h, show n / 4294967296 = 0 by omega, wordsN_zero, Nat.mod_eq_of_lt h1]
theorem wordsN_two {n : Nat} (hn : n < 18446744073709551616) : wordsN n = if n = 0 then [] else if n < 4294967296 then [n] else [n % 4294967296, n / 4294967296] := by
  split
  · next h => rw [h, wordsN_zero]
  · split
    · next h h1 => exact wordsN_one (by omega) h1
    · rw [wordsN_pos (by omega), wordsN_one (by omega) (by omega)]
theorem wordsN_val (n : Nat) : valW (wordsN n) = n := by
  induction n using Nat.strongRecOn with
  | _ n ih =>
    rcases Nat.eq_zero_or_pos n with rfl | h
    · rfl
    · rw [wordsN_pos h, valW, ih _ (by omega)]; omega
theorem wordsN_lt (n : Nat) : ∀ x ∈ wordsN n, x < 4294967296 := by
  induction n using Nat.strongRecOn with
  | _ n ih =>
    rcases Nat.eq_zero_or_pos n with rfl | h
    · intro x hx; cases hx
    · rw [wordsN_pos h]
      intro x hx
      rcases List.mem_cons.1 hx with rfl | hx
      · omega
      · exact ih _ (by omega) x hx
/-- The numbers that are spoken of: a thousand words. -/
def topW : Nat := 1000
def bigTop : Nat := 4294967296 ^ topW
theorem wordsN_lenk : ∀ (k : Nat) {n : Nat}, n < 4294967296 ^ k → (wordsN n).length ≤ k
  | 0, n, h => by
    obtain rfl : n = 0 := by rw [Nat.pow_zero] at h; omega
    exact Nat.le_refl _
  | k + 1, n, h => by
    rcases Nat.eq_zero_or_pos n with rfl | h0
    · exact Nat.zero_le _
    · rw [wordsN_pos h0, List.length_cons]
      rw [Nat.pow_succ] at h
      have := wordsN_lenk k (n := n / 4294967296) (by rw [Nat.div_lt_iff_lt_mul (by omega)]; exact h)
      omega
theorem wordsN_len {n : Nat} (h : n < bigTop) : (wordsN n).length ≤ 1000 := wordsN_lenk topW h
theorem wordsN_len2 {n : Nat} (h : n < 18446744073709551616) : (wordsN n).length ≤ 2 := wordsN_lenk 2 h
theorem bigTop_pow {k : Nat} (h : k ≤ 1000) : 4294967296 ^ k ≤ bigTop := Nat.pow_le_pow_right (by omega) h
theorem bigTop_ge : 18446744073709551616 ≤ bigTop := bigTop_pow (k := 2) (by omega)
theorem wordsN_nil {n : Nat} : (wordsN n).length = 0 ↔ n = 0 := by
  rcases Nat.eq_zero_or_pos n with rfl | h
  · simp [wordsN_zero]
  · rw [wordsN_pos h]; simp; omega
theorem valW_top : ∀ (a : List Nat), a ≠ [] → a.getLast? ≠ some 0 → 0 < valW a
  | [], h, _ => absurd rfl h
  | [x], _, h => by
    rw [valW_one]
    rcases Nat.eq_zero_or_pos x with rfl | h'
    · exact absurd rfl h
    · exact h'
  | x :: y :: r, _, h => by
    have := valW_top (y :: r) (by simp) (by simpa using h)
    rw [valW]
    omega
theorem canon_words : ∀ {a : List Nat}, (∀ x ∈ a, x < 4294967296) → a.getLast? ≠ some 0 → a = wordsN (valW a)
  | [], _, _ => rfl
  | x :: r, h, ht => by
    have h1 := h x (List.mem_cons_self ..)
    have h0 : 0 < valW (x :: r) := valW_top _ (by simp) ht
    have hr : r = wordsN (valW r) := canon_words (fun y hy => h y (List.mem_cons_of_mem _ hy)) (by
      cases r with
      | nil => simp
      | cons y r => simpa using ht)
    rw [wordsN_pos h0, show valW (x :: r) % 4294967296 = x by rw [valW]; omega, show valW (x :: r) / 4294967296 = valW r by rw [valW]; omega, ← hr]
/-- What trim leaves. -/
theorem trim_words {a : List Nat} {n : Nat} (h : ∀ x ∈ a, x < 4294967296) (hz : ∀ x ∈ a.drop n, x = 0) (hn : n ≤ a.length) (ht : n = 0 ∨ a[n - 1]? ≠ some 0) : a.take n = wordsN (valW a) := by
  have e : valW a = valW (a.take n) := by
    have h1 := valW_append (a.take n) (a.drop n)
    rw [List.take_append_drop, valW_zeros _ hz] at h1
    simpa using h1
  rw [e]
  refine canon_words (fun x hx => h x (List.mem_of_mem_take hx)) ?_
  rw [List.getLast?_eq_getElem?, List.length_take, Nat.min_eq_left hn]
  rcases ht with rfl | ht
  · simp
  · by_cases h0 : n = 0
    · subst h0; simp
    · rw [List.getElem?_take, if_pos (by omega)]; exact ht
/-! ### Adding -/
/-- The state of an addition: the words that are made, and the carry. -/
structure AddSt (a b R : List Nat) (i c : Nat) : Prop where
  len : R.length = i
  lt : ∀ x ∈ R, x < 4294967296
  carry : c ≤ 1
  val : valW R + 4294967296 ^ i * c = valW (a.take i) + valW (b.take i)
theorem AddSt.start (a b : List Nat) : AddSt a b [] 0 0 := ⟨rfl, by simp, by omega, by simp [valW]⟩
theorem pow_carry (P c1 : Nat) : P * (c1 % 4294967296) + P * 4294967296 * (c1 / 4294967296) = P * c1 := by
  rw [Nat.mul_assoc, ← Nat.mul_add, Nat.mod_add_div]
theorem AddSt.next {a b R : List Nat} {i c x y : Nat} (h : AddSt a b R i c) (ha : a[i]? = some x) (hx : x < 4294967296) (hb : (b[i]? = some y ∧ y < 4294967296) ∨ (b.length ≤ i ∧ y = 0)) :
    AddSt a b (R ++ [(c + x + y) % 4294967296]) (i + 1) ((c + x + y) / 4294967296) where
  len := by rw [List.length_append, h.len]; rfl
  lt := fun z hz => by
    rcases List.mem_append.1 hz with hz | hz
    · exact h.lt z hz
    · simp only [List.mem_singleton] at hz; omega
  carry := by have := h.carry; rcases hb with ⟨_, hb⟩ | ⟨_, rfl⟩ <;> omega
  val := by
    have hb' : valW (b.take (i + 1)) = valW (b.take i) + 4294967296 ^ i * y := by
      rcases hb with ⟨hb, _⟩ | ⟨hb, rfl⟩
      · exact valW_take hb
      · rw [List.take_of_length_le (by omega), List.take_of_length_le hb]; simp
    have hv := h.val
    have hp := pow_carry (4294967296 ^ i) (c + x + y)
    rw [valW_snoc, h.len, valW_take ha, hb', Nat.pow_succ]
    have e : 4294967296 ^ i * (c + x + y) = 4294967296 ^ i * c + 4294967296 ^ i * x + 4294967296 ^ i * y := by rw [Nat.mul_add, Nat.mul_add]
    rw [e] at hp
    omega
theorem AddSt.ends {a b R : List Nat} {i c : Nat} (h : AddSt a b R i c) (ha : a.length = i) (hb : b.length ≤ i) : valW (R ++ [c]) = valW a + valW b ∧ ∀ x ∈ R ++ [c], x < 4294967296 := by
  refine ⟨?_, fun x hx => ?_⟩
  · have := h.val
    rw [List.take_of_length_le (by omega), List.take_of_length_le hb] at this
    rw [valW_snoc, h.len, this]
  · rcases List.mem_append.1 hx with hx | hx
    · exact h.lt x hx
    · have := h.carry; simp only [List.mem_singleton] at hx; omega
/-! ### Multiplying by one word -/
structure MulSt (a R : List Nat) (d i k : Nat) : Prop where
  len : R.length = i
  lt : ∀ x ∈ R, x < 4294967296
  top : k < 4294967296
  val : valW R + 4294967296 ^ i * k = valW (a.take i) * d
theorem MulSt.start (a : List Nat) (d : Nat) : MulSt a [] d 0 0 := ⟨rfl, by simp, by omega, by simp [valW]⟩
theorem mul_small {x d k : Nat} (hx : x < 4294967296) (hd : d < 4294967296) (hk : k < 4294967296) : x * d + k < 18446744073709551616 := by
  have : x * d ≤ 4294967295 * 4294967295 := Nat.mul_le_mul (by omega) (by omega)
  omega
theorem MulSt.next {a R : List Nat} {d i k x : Nat} (h : MulSt a R d i k) (ha : a[i]? = some x) (hx : x < 4294967296) (hd : d < 4294967296) :
    MulSt a (R ++ [(x * d + k) % 4294967296]) d (i + 1) ((x * d + k) / 4294967296) where
  len := by rw [List.length_append, h.len]; rfl
  lt := fun z hz => by
    rcases List.mem_append.1 hz with hz | hz
    · exact h.lt z hz
    · simp only [List.mem_singleton] at hz; omega
  top := by have := mul_small hx hd h.top; omega
  val := by
    have hv := h.val
    have hp := pow_carry (4294967296 ^ i) (x * d + k)
    rw [valW_snoc, h.len, valW_take ha, Nat.pow_succ, Nat.add_mul]
    have e : 4294967296 ^ i * (x * d + k) = 4294967296 ^ i * x * d + 4294967296 ^ i * k := by rw [Nat.mul_add, Nat.mul_assoc]
    rw [e] at hp
    omega
theorem MulSt.ends {a R : List Nat} {d i k : Nat} (h : MulSt a R d i k) (ha : a.length = i) : valW (R ++ [k]) = valW a * d ∧ ∀ x ∈ R ++ [k], x < 4294967296 := by
  refine ⟨?_, fun x hx => ?_⟩
  · have := h.val
    rw [List.take_of_length_le (by omega)] at this
    rw [valW_snoc, h.len, this]
  · rcases List.mem_append.1 hx with hx | hx
    · exact h.lt x hx
    · have := h.top; simp only [List.mem_singleton] at hx; omega
/-! ### Comparing -/
theorem valW_less {a b : List Nat} {i x y : Nat} (ha : a[i]? = some x) (hb : b[i]? = some y) (hl : ∀ z ∈ a, z < 4294967296) (hd : a.drop (i + 1) = b.drop (i + 1)) (hxy : x < y) : valW a < valW b := by
  have split : ∀ {l : List Nat} {z : Nat}, l[i]? = some z → valW l = valW (l.take i) + 4294967296 ^ i * z + 4294967296 ^ (i + 1) * valW (l.drop (i + 1)) := fun {l z} h => by
    have h1 := valW_append (l.take (i + 1)) (l.drop (i + 1))
    have hlt := (List.getElem?_eq_some_iff.1 h).1
    rw [List.take_append_drop, valW_take h, List.length_take, Nat.min_eq_left (by omega)] at h1
    exact h1
  have h1 := valW_lt (a.take i) (fun z hz => hl z (List.mem_of_mem_take hz))
  have hlt := (List.getElem?_eq_some_iff.1 ha).1
  rw [List.length_take, Nat.min_eq_left (by omega)] at h1
  rw [split ha, split hb, hd]
  have h2 : 4294967296 ^ i * x + 4294967296 ^ i ≤ 4294967296 ^ i * y := by rw [← Nat.mul_succ]; exact Nat.mul_le_mul_left _ hxy
  omega
theorem wordsN_mono : ∀ {n m : Nat}, n ≤ m → (wordsN n).length ≤ (wordsN m).length := by
  intro n
  induction n using Nat.strongRecOn with
  | _ n ih =>
    intro m h
    rcases Nat.eq_zero_or_pos n with rfl | h0
    · exact Nat.zero_le _
    · rw [wordsN_pos h0, wordsN_pos (Nat.lt_of_lt_of_le h0 h), List.length_cons, List.length_cons]
      have := @ih (n / 4294967296) (by omega) (m / 4294967296) (Nat.div_le_div_right h)
      omega
theorem wordsN_shorter {n m : Nat} (h : (wordsN n).length < (wordsN m).length) : n < m := by
  rcases Nat.lt_or_ge n m with e | e
  · exact e
  · have := wordsN_mono e; omega
end Go.Proofs.YtabhpbkkjijfjaaGreatDoor
