/-
  Heaps of numbers in lists: up and down.
-/
import Derived.Test.YtdmamecfmfhlmaaArMath
namespace Go.Proofs.Ytdmamecfmfhlmaa
set_option maxRecDepth 100000

/-- A heap's order among the first n. -/
def HeapN (n : Nat) (l : List Nat) : Prop := ∀ j x y, 0 < j → j < n → l[(j - 1) / 2]? = some x → l[j]? = some y → x ≤ y
/-- In order, but for k and its parent. -/
structure HeapX (l : List Nat) (k : Nat) : Prop where
  all : ∀ j x y, 0 < j → j ≠ k → l[(j - 1) / 2]? = some x → l[j]? = some y → x ≤ y
  over : ∀ c x z, 0 < k → 0 < c → (c - 1) / 2 = k → l[(k - 1) / 2]? = some x → l[c]? = some z → x ≤ z
theorem swap_get {l : List Nat} {i k x y : Nat} (hx : l[i]? = some x) (hy : l[k]? = some y) (j : Nat) : ((l.set i y).set k x)[j]? = if j = k then some x else if j = i then some y else l[j]? := by
  have hi := (List.getElem?_eq_some_iff.1 hx).1
  have hk := (List.getElem?_eq_some_iff.1 hy).1
  rw [List.getElem?_set, List.length_set, List.getElem?_set]
  by_cases h1 : k = j
  · rw [if_pos h1, if_pos (by omega), if_pos h1.symm]
  · rw [if_neg h1, if_neg (show ¬ j = k by omega)]
    by_cases h2 : i = j
    · rw [if_pos h2, if_pos (show i < l.length by omega), if_pos h2.symm]
    · rw [if_neg h2, if_neg (show ¬ j = i by omega)]
theorem swap_perm {l : List Nat} {i k x y : Nat} (hx : l[i]? = some x) (hy : l[k]? = some y) : ((l.set i y).set k x).Perm l := by
  obtain ⟨hi, ei⟩ := List.getElem?_eq_some_iff.1 hx
  obtain ⟨hk, ek⟩ := List.getElem?_eq_some_iff.1 hy
  have := List.set_set_perm hi hk
  rwa [ei, ek] at this
theorem HeapX.done {l : List Nat} {k : Nat} (h : HeapX l k) (hk : k = 0 ∨ ∃ x y, l[(k - 1) / 2]? = some x ∧ l[k]? = some y ∧ x ≤ y) : HeapN l.length l := by
  intro j x y h0 _ hx hy
  by_cases e : j = k
  · subst e
    rcases hk with hk | ⟨x', y', h1, h2, h3⟩
    · omega
    · rw [hx] at h1; rw [hy] at h2
      cases h1; cases h2; exact h3
  · exact h.all j x y h0 e hx hy
theorem HeapX.swap {l : List Nat} {k x y : Nat} (h : HeapX l k) (hk : 0 < k) (hx : l[(k - 1) / 2]? = some x) (hy : l[k]? = some y) (hlt : y < x) : HeapX ((l.set ((k - 1) / 2) y).set k x) ((k - 1) / 2) := by
  have hg := swap_get hx hy
  obtain ⟨i, hi⟩ : ∃ i, i = (k - 1) / 2 := ⟨_, rfl⟩
  rw [← hi] at hg hx ⊢
  refine ⟨fun j u v h0 hji hu hv => ?_, fun c u v h0 hc hci hu hv => ?_⟩
  · rw [hg] at hu hv
    by_cases e1 : j = k
    · subst e1
      rw [← hi, if_neg (by omega), if_pos rfl] at hu
      rw [if_pos rfl] at hv
      cases hu; cases hv; omega
    · rw [if_neg e1, if_neg hji] at hv
      by_cases e2 : (j - 1) / 2 = k
      · rw [if_pos e2] at hu
        cases hu
        exact h.over j x v hk h0 e2 (by rw [← hi]; exact hx) hv
      · rw [if_neg e2] at hu
        by_cases e3 : (j - 1) / 2 = i
        · rw [if_pos e3] at hu
          cases hu
          have := h.all j x v h0 e1 (by rw [e3]; exact hx) hv
          omega
        · rw [if_neg e3] at hu
          exact h.all j u v h0 e1 hu hv
  · rw [hg] at hu hv
    rw [if_neg (by omega), if_neg (by omega)] at hu
    have hp := h.all i u x h0 (by omega) hu hx
    by_cases e1 : c = k
    · rw [if_pos e1] at hv
      cases hv; exact hp
    · rw [if_neg e1, if_neg (by omega)] at hv
      have := h.all c x v hc e1 (by rw [hci]; exact hx) hv
      omega
/-- A number put behind a heap. -/
theorem HeapX.push {l : List Nat} (h : HeapN l.length l) (x : Nat) : HeapX (l ++ [x]) l.length := by
  refine ⟨fun j u v h0 hj hu hv => ?_, fun c u v h0 hc hci hu hv => ?_⟩
  · have hl := (List.getElem?_eq_some_iff.1 hv).1
    rw [List.length_append, List.length_singleton] at hl
    have hj2 : j < l.length := by omega
    rw [List.getElem?_append_left hj2] at hv
    rw [List.getElem?_append_left (by omega)] at hu
    exact h j u v h0 hj2 hu hv
  · have hl := (List.getElem?_eq_some_iff.1 hv).1
    rw [List.length_append, List.length_singleton] at hl
    omega
/-- In order among the first n, but for k and its children. -/
structure HeapD (n : Nat) (l : List Nat) (k : Nat) : Prop where
  all : ∀ j x y, 0 < j → j < n → (j - 1) / 2 ≠ k → l[(j - 1) / 2]? = some x → l[j]? = some y → x ≤ y
  over : ∀ c x z, 0 < k → 0 < c → c < n → (c - 1) / 2 = k → l[(k - 1) / 2]? = some x → l[c]? = some z → x ≤ z
theorem HeapD.done {n : Nat} {l : List Nat} {k : Nat} (h : HeapD n l k) (hk : ∀ c x y, 0 < c → c < n → (c - 1) / 2 = k → l[k]? = some x → l[c]? = some y → x ≤ y) : HeapN n l := by
  intro j x y h0 hj hx hy
  by_cases e : (j - 1) / 2 = k
  · rw [e] at hx; exact hk j x y h0 hj e hx hy
  · exact h.all j x y h0 hj e hx hy
/-- k changed with its lesser child. -/
theorem HeapD.swap {n : Nat} {l : List Nat} {k c x y : Nat} (h : HeapD n l k) (hc0 : 0 < c) (hcn : c < n) (hck : (c - 1) / 2 = k) (hx : l[k]? = some x) (hy : l[c]? = some y) (hlt : y < x)
    (hmin : ∀ d z, 0 < d → d < n → (d - 1) / 2 = k → l[d]? = some z → y ≤ z) : HeapD n ((l.set k y).set c x) c := by
  have hg := swap_get hx hy
  refine ⟨fun j u v h0 hj hjc hu hv => ?_, fun d u v h0 hd0 hdn hdc hu hv => ?_⟩
  · rw [hg] at hu hv
    rw [if_neg hjc] at hu
    by_cases e1 : j = c
    · rw [if_pos e1] at hv
      cases hv
      rw [e1, hck, if_pos rfl] at hu
      cases hu; omega
    · rw [if_neg e1] at hv
      by_cases e2 : (j - 1) / 2 = k
      · rw [if_pos e2] at hu
        cases hu
        by_cases e3 : j = k
        · omega
        · rw [if_neg e3] at hv
          exact hmin j v h0 hj e2 hv
      · rw [if_neg e2] at hu
        by_cases e3 : j = k
        · rw [if_pos e3] at hv
          cases hv
          rw [e3] at hu
          exact h.over c u y (by omega) hc0 hcn hck hu hy
        · rw [if_neg e3] at hv
          exact h.all j u v h0 hj e2 hu hv
  · rw [hg] at hu hv
    rw [hck, if_neg (by omega), if_pos rfl] at hu
    cases hu
    rw [if_neg (by omega), if_neg (by omega)] at hv
    exact h.all d y v hd0 hdn (by omega) (by rw [hdc]; exact hy) hv
/-- The first of a heap is the least. -/
theorem HeapN.least {n : Nat} {l : List Nat} (h : HeapN n l) (hn : n ≤ l.length) : ∀ j x y, j < n → l[0]? = some x → l[j]? = some y → x ≤ y := by
  intro j
  induction j using Nat.strongRecOn with
  | ind j ih =>
    intro x y hj hx hy
    rcases Nat.eq_zero_or_pos j with rfl | h0
    · rw [hx] at hy; cases hy; exact Nat.le_refl _
    · obtain ⟨z, hz⟩ : ∃ z, l[(j - 1) / 2]? = some z := ⟨_, List.getElem?_eq_getElem (by omega)⟩
      have h1 := ih ((j - 1) / 2) (by omega) x z (by omega) hx hz
      have h2 := h j z y h0 hj hz hy
      omega
/-- The last one put ahead. -/
theorem HeapD.pop {l : List Nat} {x y : Nat} (h : HeapN l.length l) (hx : l[0]? = some x) (hy : l[l.length - 1]? = some y) : HeapD (l.length - 1) ((l.set 0 y).set (l.length - 1) x) 0 := by
  have hg := swap_get hx hy
  refine ⟨fun j u v h0 hj hj0 hu hv => ?_, fun c u v h0 => by omega⟩
  rw [hg, if_neg (by omega), if_neg hj0] at hu
  rw [hg, if_neg (by omega), if_neg (by omega)] at hv
  exact h j u v h0 (by omega) hu hv
end Go.Proofs.Ytdmamecfmfhlmaa
