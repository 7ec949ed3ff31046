/-
  Cells moved; lists of cells merged: plain lists.
-/
import Derived.Test.YtffgpjkkgndkiaaPlaneMath
namespace Go.Proofs.Ytffgpjkkgndkiaa
set_option maxRecDepth 100000

def moveC (dx dy : Int) (c : Int × Int) : Int × Int := (c.1 + dx, c.2 + dy)
def wideF (d : Int) : Bool := decide (d ≤ -2199023255552) || decide (2199023255552 ≤ d)
/-- P1.3. -/
def shiftF (l : List (Int × Int)) (dx dy : Int) : List (Int × Int) × Int :=
  if (tidyF l).2 ≠ 0 then ([], (tidyF l).2)
  else if wideF dx || wideF dy then ([], 3)
  else if ((tidyF l).1.map (moveC dx dy)).any farC then ([], 3)
  else ((tidyF l).1.map (moveC dx dy), 0)
theorem tidyF_ok {l : List (Int × Int)} (h : (tidyF l).2 = 0) : l.length ≤ 4096 ∧ l.any farC = false ∧ tidyF l = (sortF l, 0) := by
  unfold tidyF at h ⊢
  split at h
  · simp at h
  · next h1 =>
    split at h
    · simp at h
    · next h2 => exact ⟨by omega, by simpa using h2, by rw [if_neg h1, if_neg h2]⟩
theorem tidyF_err (l : List (Int × Int)) : (tidyF l).2 = 0 ∨ ((tidyF l).2 ≠ 0 ∧ (tidyF l).1 = []) := by
  unfold tidyF
  split
  · exact .inr ⟨by simp, rfl⟩
  · split
    · exact .inr ⟨by simp, rfl⟩
    · exact .inl rfl
theorem tidyF_rising (l : List (Int × Int)) : Rising (tidyF l).1 := by
  unfold tidyF
  split
  · exact List.Pairwise.nil
  · split
    · exact List.Pairwise.nil
    · exact rising_sortF l
theorem rising_map {l : List (Int × Int)} (dx dy : Int) (h : Rising l) : Rising (l.map (moveC dx dy)) := by
  unfold Rising at *
  rw [List.pairwise_map]
  refine h.imp fun {a b} hab => ?_
  rw [cellLt_iff] at *
  simp only [moveC]
  omega
theorem shift_tidy (l : List (Int × Int)) (dx dy : Int) : tidyF ((tidyF l).1.map (moveC dx dy)) = if ((tidyF l).1.map (moveC dx dy)).any farC then ([], 3) else ((tidyF l).1.map (moveC dx dy), 0) := by
  have hl := tidyF_length l
  rw [tidyF.eq_1 ((tidyF l).1.map (moveC dx dy)), if_neg (by rw [List.length_map]; omega)]
  split
  · rfl
  · rw [sortF_rising (rising_map dx dy (tidyF_rising l))]

/-- The cells of two rising lists of which keep says yes, merged. -/
def pickF (keep : Bool → Bool → Bool) : List (Int × Int) → List (Int × Int) → List (Int × Int)
  | [], [] => []
  | a :: x, [] => (if keep true false then [a] else []) ++ pickF keep x []
  | [], b :: y => (if keep false true then [b] else []) ++ pickF keep [] y
  | a :: x, b :: y => if cellLt a b then (if keep true false then [a] else []) ++ pickF keep x (b :: y)
    else if cellLt b a then (if keep false true then [b] else []) ++ pickF keep (a :: x) y
    else (if keep true true then [a] else []) ++ pickF keep x y
termination_by x y => x.length + y.length
theorem mem_one {p : Bool} {a c : Int × Int} : c ∈ (if p then [a] else []) ↔ p = true ∧ c = a := by cases p <;> simp
theorem pickF_spec (keep : Bool → Bool → Bool) : ∀ (x y : List (Int × Int)), Rising x → Rising y →
    Rising (pickF keep x y) ∧ ∀ c, c ∈ pickF keep x y ↔ (c ∈ x ∨ c ∈ y) ∧ keep (decide (c ∈ x)) (decide (c ∈ y)) = true
  | [], [], _, _ => by rw [pickF]; exact ⟨List.Pairwise.nil, fun c => by simp⟩
  | a :: x, [], hx, hy => by
    have h1 := List.pairwise_cons.1 hx
    obtain ⟨r, m⟩ := pickF_spec keep x [] h1.2 hy
    have hax : a ∉ x := fun h => by have := h1.1 a h; rw [cellLt_irrefl] at this; cases this
    rw [pickF]
    refine ⟨?_, fun c => ?_⟩
    · cases hk : keep true false
      · simpa using r
      · refine List.pairwise_cons.2 ⟨fun c hc => ?_, r⟩
        have := ((m c).1 hc).1
        simp at this
        exact h1.1 c this
    · rw [List.mem_append, mem_one, m]
      by_cases hc : c = a
      · subst hc; simp [hax]
      · simp [hc]
  | [], b :: y, hx, hy => by
    have h1 := List.pairwise_cons.1 hy
    obtain ⟨r, m⟩ := pickF_spec keep [] y hx h1.2
    have hby : b ∉ y := fun h => by have := h1.1 b h; rw [cellLt_irrefl] at this; cases this
    rw [pickF]
    refine ⟨?_, fun c => ?_⟩
    · cases hk : keep false true
      · simpa using r
      · refine List.pairwise_cons.2 ⟨fun c hc => ?_, r⟩
        have := ((m c).1 hc).1
        simp at this
        exact h1.1 c this
    · rw [List.mem_append, mem_one, m]
      by_cases hc : c = b
      · subst hc; simp [hby]
      · simp [hc]
  | a :: x, b :: y, hx, hy => by
    have h1 := List.pairwise_cons.1 hx
    have h2 := List.pairwise_cons.1 hy
    have hax : a ∉ x := fun h => by have := h1.1 a h; rw [cellLt_irrefl] at this; cases this
    have hby : b ∉ y := fun h => by have := h2.1 b h; rw [cellLt_irrefl] at this; cases this
    rw [pickF]
    split
    · next hab =>
      obtain ⟨r, m⟩ := pickF_spec keep x (b :: y) h1.2 hy
      have hay : a ∉ b :: y := fun h => by
        rcases List.mem_cons.1 h with e | h
        · subst e; rw [cellLt_irrefl] at hab; cases hab
        · have := cellLt_trans hab (h2.1 a h); rw [cellLt_irrefl] at this; cases this
      refine ⟨?_, fun c => ?_⟩
      · cases hk : keep true false
        · simpa using r
        · refine List.pairwise_cons.2 ⟨fun c hc => ?_, r⟩
          rcases ((m c).1 hc).1 with h | h
          · exact h1.1 c h
          · rcases List.mem_cons.1 h with e | h
            · subst e; exact hab
            · exact cellLt_trans hab (h2.1 c h)
      · rw [List.mem_append, mem_one, m]
        by_cases hc : c = a
        · subst hc; simp [hax, hay]
        · simp [hc]
    · next hab =>
      split
      · next hba =>
        obtain ⟨r, m⟩ := pickF_spec keep (a :: x) y hx h2.2
        have hbx : b ∉ a :: x := fun h => by
          rcases List.mem_cons.1 h with e | h
          · subst e; rw [cellLt_irrefl] at hba; cases hba
          · have := cellLt_trans hba (h1.1 b h); rw [cellLt_irrefl] at this; cases this
        refine ⟨?_, fun c => ?_⟩
        · cases hk : keep false true
          · simpa using r
          · refine List.pairwise_cons.2 ⟨fun c hc => ?_, r⟩
            rcases ((m c).1 hc).1 with h | h
            · rcases List.mem_cons.1 h with e | h
              · subst e; exact hba
              · exact cellLt_trans hba (h1.1 c h)
            · exact h2.1 c h
        · rw [List.mem_append, mem_one, m]
          by_cases hc : c = b
          · subst hc; simp [hby, hbx]
          · simp [hc]
      · next hba =>
        have e : a = b := by
          rcases cellLt_total a b with h | h | h
          · exact absurd h hab
          · exact h
          · exact absurd h hba
        subst e
        obtain ⟨r, m⟩ := pickF_spec keep x y h1.2 h2.2
        refine ⟨?_, fun c => ?_⟩
        · cases hk : keep true true
          · simpa using r
          · refine List.pairwise_cons.2 ⟨fun c hc => ?_, r⟩
            rcases ((m c).1 hc).1 with h | h
            · exact h1.1 c h
            · exact h2.1 c h
        · rw [List.mem_append, mem_one, m]
          by_cases hc : c = a
          · subst hc; simp [hax, hby]
          · simp [hc]
termination_by x y => x.length + y.length
/-- P1.2. -/
def mergeF (keep : Bool → Bool → Bool) (l m : List (Int × Int)) : List (Int × Int) × Int :=
  if (tidyF l).2 ≠ 0 then ([], (tidyF l).2)
  else if (tidyF m).2 ≠ 0 then ([], (tidyF m).2)
  else if 4096 < (pickF keep (tidyF l).1 (tidyF m).1).length then ([], 5)
  else (pickF keep (tidyF l).1 (tidyF m).1, 0)
end Go.Proofs.Ytffgpjkkgndkiaa
