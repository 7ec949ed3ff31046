/-
  Which cells live next: plain lists.
-/
import Derived.Test.YtffgpjkkgndkiaaPlaneMath
namespace Go.Proofs.Ytffgpjkkgndkiaa
set_option maxRecDepth 100000

theorem perm_of_nodup : ∀ {l m : List (Int × Int)}, l.Nodup → m.Nodup → (∀ c, c ∈ l ↔ c ∈ m) → l.Perm m
  | [], m, _, _, h => by
    have : m = [] := List.eq_nil_iff_forall_not_mem.2 fun c hc => by have := (h c).2 hc; cases this
    subst this
    exact .refl _
  | a :: l, m, hl, hm, h => by
    have h1 := List.nodup_cons.1 hl
    have ha : a ∈ m := (h a).1 (List.mem_cons_self ..)
    have hp : m.Perm (a :: m.erase a) := List.perm_cons_erase ha
    refine .trans (.cons a (perm_of_nodup h1.2 (hm.erase a) fun c => ?_)) hp.symm
    rw [hm.mem_erase_iff]
    constructor
    · intro hc
      refine ⟨fun e => h1.1 (by rw [← e]; exact hc), (h c).1 (List.mem_cons_of_mem _ hc)⟩
    · rintro ⟨hne, hc⟩
      rcases List.mem_cons.1 ((h c).2 hc) with e | hc'
      · exact absurd e hne
      · exact hc'
/-- What is no list's twice, is tidied alike, whatever its order. -/
theorem tidyF_perm {l m : List (Int × Int)} (h : l.Perm m) : tidyF l = tidyF m := by
  have h1 : l.length = m.length := h.length_eq
  have h2 : l.any farC = m.any farC := by
    rw [Bool.eq_iff_iff, List.any_eq_true, List.any_eq_true]
    constructor
    · rintro ⟨c, hc, hf⟩; exact ⟨c, h.mem_iff.1 hc, hf⟩
    · rintro ⟨c, hc, hf⟩; exact ⟨c, h.mem_iff.2 hc, hf⟩
  have h3 : sortF l = sortF m := sortF_eq (rising_sortF m) fun x => by rw [mem_sortF]; exact h.mem_iff.symm
  unfold tidyF
  rw [h1, h2, h3]
theorem tidyF_same {l m : List (Int × Int)} (hl : l.Nodup) (hm : m.Nodup) (h : ∀ c, c ∈ l ↔ c ∈ m) : tidyF l = tidyF m := tidyF_perm (perm_of_nodup hl hm h)
theorem rising_nodup {l : List (Int × Int)} (h : Rising l) : l.Nodup := h.imp fun {a b} hab e => by subst e; rw [cellLt_irrefl] at hab; cases hab

/-- The nine cells at a cell, row by row. -/
def nineF (c : Int × Int) : List (Int × Int) := [(c.1 - 1, c.2 - 1), (c.1, c.2 - 1), (c.1 + 1, c.2 - 1), (c.1 - 1, c.2), (c.1, c.2), (c.1 + 1, c.2), (c.1 - 1, c.2 + 1), (c.1, c.2 + 1), (c.1 + 1, c.2 + 1)]
def eightF (c : Int × Int) : List (Int × Int) := [(c.1 - 1, c.2 - 1), (c.1, c.2 - 1), (c.1 + 1, c.2 - 1), (c.1 - 1, c.2), (c.1 + 1, c.2), (c.1 - 1, c.2 + 1), (c.1, c.2 + 1), (c.1 + 1, c.2 + 1)]
/-- How many of its eight neighbours live. -/
def nearF (s : List (Int × Int)) (d : Int × Int) : Nat := ((eightF d).filter fun c => decide (c ∈ s)).length
end Go.Proofs.Ytffgpjkkgndkiaa
