/-
  Where a cell belongs in a list in order, found by halving; what stands twice taken away: plain lists.
-/
import Derived.Test.YtdmamecfmfhlmaaPlaneMath
namespace Go.Proofs.Ytdmamecfmfhlmaa
set_option maxRecDepth 100000

/-- A list behind p, without what is like the one ahead of it. -/
def ddF (p : Int × Int) : List (Int × Int) → List (Int × Int)
  | [] => []
  | x :: r => if x = p then ddF x r else x :: ddF x r
theorem compF_cons : ∀ (r : List (Int × Int)) (a : Int × Int), compF (a :: r) = a :: ddF a r
  | [], a => by simp [compF, ddF]
  | b :: r, a => by
    rw [compF, compF_cons r b, ddF]
    by_cases h : a = b
    · subst h; simp
    · rw [if_neg h, if_neg (fun e => h e.symm)]
theorem ddF_length : ∀ (r : List (Int × Int)) (p : Int × Int), (ddF p r).length ≤ r.length
  | [], p => by simp [ddF]
  | x :: r, p => by
    have := ddF_length r x
    unfold ddF
    split <;> simp <;> omega
theorem putF_at (c : Int × Int) : ∀ (xs : List (Int × Int)) (lo : Nat), lo ≤ xs.length → (∀ i x, i < lo → xs[i]? = some x → cellLt x c = true) → (∀ i x, lo ≤ i → xs[i]? = some x → cellLt x c = false) →
    putF c xs = if xs[lo]? = some c then xs else xs.take lo ++ c :: xs.drop lo
  | [], lo, h, _, _ => by
    have : lo = 0 := by simpa using h
    subst this; simp [putF]
  | a :: r, 0, _, _, h2 => by
    have := h2 0 a (Nat.le_refl _) rfl
    rw [putF, if_neg (by rw [this]; simp)]
    simp only [List.getElem?_cons_zero, Option.some.injEq, List.take_zero, List.drop_zero, List.nil_append]
  | a :: r, lo + 1, h, h1, h2 => by
    have := h1 0 a (by omega) rfl
    have ih := putF_at c r lo (by simpa using h) (fun i x hi hx => h1 (i + 1) x (by omega) (by simpa using hx)) (fun i x hi hx => h2 (i + 1) x (by omega) (by simpa using hx))
    rw [putF, if_pos this, ih]
    simp only [List.getElem?_cons_succ, List.take_succ_cons, List.drop_succ_cons, List.cons_append]
    split <;> rfl
theorem rising_lt {xs : List (Int × Int)} (h : Rising xs) {i j : Nat} {x y : Int × Int} (hx : xs[i]? = some x) (hy : xs[j]? = some y) (hij : i < j) : cellLt x y = true := by
  obtain ⟨hi, rfl⟩ := List.getElem?_eq_some_iff.1 hx
  obtain ⟨hj, rfl⟩ := List.getElem?_eq_some_iff.1 hy
  exact List.pairwise_iff_getElem.1 h i j hi hj hij
/-- What a halving keeps. -/
structure Halved (xs : List (Int × Int)) (c : Int × Int) (lo hi : Nat) : Prop where
  le : lo ≤ hi
  len : hi ≤ xs.length
  low : ∀ i x, i < lo → xs[i]? = some x → cellLt x c = true
  high : ∀ i x, hi ≤ i → xs[i]? = some x → cellLt x c = false
theorem Halved.start (xs : List (Int × Int)) (c : Int × Int) : Halved xs c 0 xs.length :=
  ⟨Nat.zero_le _, Nat.le_refl _, fun i x h => by omega, fun i x h hx => by rw [List.getElem?_eq_none h] at hx; cases hx⟩
theorem Halved.up {xs : List (Int × Int)} {c m : Int × Int} {lo hi : Nat} (h : Halved xs c lo hi) (hr : Rising xs) (hlt : lo < hi) (hm : xs[(lo + hi) / 2]? = some m) (ha : cellLt m c = true) : Halved xs c ((lo + hi) / 2 + 1) hi :=
  ⟨by omega, h.len, fun i x hi' hx => by
    rcases Nat.lt_or_ge i ((lo + hi) / 2) with h1 | h1
    · exact cellLt_trans (rising_lt hr hx hm h1) ha
    · have : i = (lo + hi) / 2 := by omega
      subst this
      rw [hm] at hx
      cases hx
      exact ha, h.high⟩
theorem Halved.down {xs : List (Int × Int)} {c m : Int × Int} {lo hi : Nat} (h : Halved xs c lo hi) (hr : Rising xs) (hlt : lo < hi) (hm : xs[(lo + hi) / 2]? = some m) (ha : cellLt m c = false) : Halved xs c lo ((lo + hi) / 2) :=
  ⟨by omega, by have := h.len; omega, h.low, fun i x hi' hx => by
    rcases Nat.lt_or_ge ((lo + hi) / 2) i with h1 | h1
    · cases hc : cellLt x c with
      | false => rfl
      | true =>
        have := cellLt_trans (rising_lt hr hm hx h1) hc
        rw [ha] at this
        cases this
    · have : i = (lo + hi) / 2 := by omega
      subst this
      rw [hm] at hx
      cases hx
      exact ha⟩
theorem Halved.found {xs : List (Int × Int)} {c : Int × Int} {lo : Nat} (h : Halved xs c lo lo) : putF c xs = if xs[lo]? = some c then xs else xs.take lo ++ c :: xs.drop lo :=
  putF_at c xs lo h.len h.low h.high
end Go.Proofs.Ytdmamecfmfhlmaa
