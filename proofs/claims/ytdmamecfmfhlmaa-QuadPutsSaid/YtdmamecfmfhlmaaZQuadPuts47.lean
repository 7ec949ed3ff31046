/-
  Which cells live next: plain lists; Put on what From makes: plain.
-/
import Derived.Test.YtdmamecfmfhlmaaPlaneMath
import Derived.Test.YtdmamecfmfhlmaaZQuadPutsQPutF
import Derived.Test.YtdmamecfmfhlmaaZQuadPutsQFromMath
import Derived.Test.YtdmamecfmfhlmaaZQuadPuts46
namespace Go.Proofs.Ytdmamecfmfhlmaa
set_option maxRecDepth 100000

theorem perm_of_nodup : ∀ {l m : List (Int × Int)}, l.Nodup → m.Nodup → (∀ c, c ∈ l ↔ c ∈ m) → l.Perm m
  | [], m, _, _, h => by
    have : m = [] := List.eq_nil_iff_forall_not_mem.2 fun c hc => by have := (h c).2 hc; cases this
    subst this
    exact .refl _
  | a :: l, m, hl, hm, h => by
    have h1 := List.nodup_cons.1 hl
    have ha : a ∈ m := (h a).1 (List.mem_cons_self ..)
    have hp : m.Perm (a :: m.erase a) := List.perm_cons_erase ha
    refine .trans (.cons a (perm_of_nodup h1.2 (hm.erase a) fun c => ?_)) hp.symm
    rw [hm.mem_erase_iff]
    constructor
    · intro hc
      refine ⟨fun e => h1.1 (by rw [← e]; exact hc), (h c).1 (List.mem_cons_of_mem _ hc)⟩
    · rintro ⟨hne, hc⟩
      rcases List.mem_cons.1 ((h c).2 hc) with e | hc'
      · exact absurd e hne
      · exact hc'
/-- What is no list's twice, is tidied alike, whatever its order. -/
theorem tidyF_perm {l m : List (Int × Int)} (h : l.Perm m) : tidyF l = tidyF m := by
  have h1 : l.length = m.length := h.length_eq
  have h2 : l.any farC = m.any farC := by
    rw [Bool.eq_iff_iff, List.any_eq_true, List.any_eq_true]
    constructor
    · rintro ⟨c, hc, hf⟩; exact ⟨c, h.mem_iff.1 hc, hf⟩
    · rintro ⟨c, hc, hf⟩; exact ⟨c, h.mem_iff.2 hc, hf⟩
  have h3 : sortF l = sortF m := sortF_eq (rising_sortF m) fun x => by rw [mem_sortF]; exact h.mem_iff.symm
  unfold tidyF
  rw [h1, h2, h3]
theorem tidyF_same {l m : List (Int × Int)} (hl : l.Nodup) (hm : m.Nodup) (h : ∀ c, c ∈ l ↔ c ∈ m) : tidyF l = tidyF m := tidyF_perm (perm_of_nodup hl hm h)
theorem rising_nodup {l : List (Int × Int)} (h : Rising l) : l.Nodup := h.imp fun {a b} hab e => by subst e; rw [cellLt_irrefl] at hab; cases hab

/-- The nine cells at a cell, row by row. -/
def nineF (c : Int × Int) : List (Int × Int) := [(c.1 - 1, c.2 - 1), (c.1, c.2 - 1), (c.1 + 1, c.2 - 1), (c.1 - 1, c.2), (c.1, c.2), (c.1 + 1, c.2), (c.1 - 1, c.2 + 1), (c.1, c.2 + 1), (c.1 + 1, c.2 + 1)]
def eightF (c : Int × Int) : List (Int × Int) := [(c.1 - 1, c.2 - 1), (c.1, c.2 - 1), (c.1 + 1, c.2 - 1), (c.1 - 1, c.2), (c.1 + 1, c.2), (c.1 - 1, c.2 + 1), (c.1, c.2 + 1), (c.1 + 1, c.2 + 1)]
/-- How many of its eight neighbours live. -/
def nearF (s : List (Int × Int)) (d : Int × Int) : Nat := ((eightF d).filter fun c => decide (c ∈ s)).length
end Go.Proofs.Ytdmamecfmfhlmaa
namespace Go.Proofs.Ytdmamecfmfhlmaa
set_option maxRecDepth 100000

theorem nodup_sub : ∀ {D l : List (Int × Int)}, D.Nodup → (∀ a ∈ D, a ∈ l) → D.length ≤ l.length
  | [], _, _, _ => Nat.zero_le _
  | a :: D, l, hn, h => by
    have h1 := List.nodup_cons.1 hn
    have ha := h a (List.mem_cons_self ..)
    have ih := nodup_sub (l := l.erase a) h1.2 fun b hb => (List.mem_erase_of_ne (fun e => h1.1 (by rw [← e]; exact hb))).2 (h b (List.mem_cons_of_mem _ hb))
    rw [List.length_erase_of_mem ha] at ih
    have := List.length_pos_of_mem ha
    rw [List.length_cons]
    omega
theorem tidyF_idem {zs : CellL} (hok : (tidyF zs).2 = 0) : tidyF (tidyF zs).1 = ((tidyF zs).1, 0) := by
  have hs := tidyF_first zs hok
  have hl := tidyF_length zs
  rw [tidyF.eq_1 (tidyF zs).1, if_neg (by omega), if_neg (fun e => by
    obtain ⟨z, hz, hf⟩ := List.any_eq_true.1 e
    rw [hs, mem_sortF] at hz
    exact tidyF_nofar hok (List.any_eq_true.2 ⟨z, hz, hf⟩)), sortF_rising (tidyF_rising zs)]
theorem tidyF_one (c : Int × Int) : tidyF [c] = if farC c then ([], 3) else ([c], 0) := by
  unfold tidyF
  rw [if_neg (by simp)]
  cases h : farC c with
  | true => simp [h]
  | false =>
    have : sortF [c] = [c] := sortF_rising (by simp [Rising])
    simp [h, this]
/-- The document's answer: the list with or without the cell, or that it is too far. -/
theorem merge_one {zs : CellL} {c : Int × Int} {keep : Bool → Bool → Bool} (hok : (tidyF zs).2 = 0) (hlen : zs.length ≤ 300) : mergeF keep (tidyF zs).1 [c] = if farC c then ([], 3) else (pickF keep (tidyF zs).1 [c], 0) := by
  unfold mergeF
  rw [tidyF_idem hok, tidyF_one]
  rw [if_neg (by simp)]
  cases h : farC c with
  | true => simp
  | false =>
    have hs := tidyF_first zs hok
    have hr : Rising [c] := by simp [Rising]
    obtain ⟨h1, h2⟩ := pickF_spec keep (tidyF zs).1 [c] (tidyF_rising zs) hr
    have hll : (tidyF zs).1.length ≤ 300 := by
      rw [hs]
      have := sortF_length zs
      omega
    have hle : (pickF keep (tidyF zs).1 [c]).length ≤ ((tidyF zs).1 ++ [c]).length := nodup_sub (rising_nodup h1) fun z hz => by
      have := ((h2 z).1 hz).1
      simpa using this
    rw [List.length_append] at hle
    simp only [List.length_cons, List.length_nil] at hle
    simp only [Bool.false_eq_true, if_false, ne_eq, not_true]
    rw [if_neg (by omega)]
/-- What Cells tells behind Put. -/
theorem put_tidy {zs : CellL} {k : Nat} {c : Int × Int} {al : Bool} {keep : Bool → Bool → Bool} (hok : (tidyF zs).2 = 0) (hlen : zs.length ≤ 300) (hl : Least (tidyF zs).1 (k + 1)) (hc : -((2 ^ k : Nat) : Int) ≤ c.1 ∧ c.1 < ((2 ^ k : Nat) : Int) ∧ -((2 ^ k : Nat) : Int) ≤ c.2 ∧ c.2 < ((2 ^ k : Nat) : Int)) (hkeep : ∀ p q, keep p q = if q then al else p) (hfar : farC c = false) :
    tidyF (cellsT (k + 1) (putT (k + 1) (c.1 + ((2 ^ k : Nat) : Int)) (c.2 + ((2 ^ k : Nat) : Int)) al (buildT (k + 1) (-((2 ^ k : Nat) : Int)) (-((2 ^ k : Nat) : Int)) (tidyF zs).1)) (-((2 ^ k : Nat) : Int)) (-((2 ^ k : Nat) : Int))) = (pickF keep (tidyF zs).1 [c], 0) := by
  have hb := within_box (by omega) hl.all
  rw [show k + 1 - 1 = k from rfl] at hb
  have hmb := fun z => mem_build (z := z) hb
  have hcn := cnt_build hb
  have hll := tidyF_length zs
  have hs := tidyF_first zs hok
  have hsl : (tidyF zs).1.length ≤ 300 := by
    rw [hs]
    have := sortF_length zs
    omega
  obtain ⟨s, hsE⟩ : ∃ s, s = (tidyF zs).1 := ⟨_, rfl⟩
  have hfs : ∀ z ∈ s, farC z = false := fun z hz => by
    cases hz2 : farC z with
    | false => rfl
    | true =>
      rw [hsE, hs, mem_sortF] at hz
      exact absurd (List.any_eq_true.2 ⟨z, hz, hz2⟩) (tidyF_nofar hok)
  have hrs : Rising s := by rw [hsE]; exact tidyF_rising zs
  rw [← hsE] at hmb hcn hll hsl ⊢
  obtain ⟨T, hT⟩ : ∃ T, T = buildT (k + 1) (-((2 ^ k : Nat) : Int)) (-((2 ^ k : Nat) : Int)) s := ⟨_, rfl⟩
  have hfT : Full (k + 1) T := by rw [hT]; exact full_build _ _ _ _
  rw [← hT] at hmb hcn ⊢
  have hp : (2 : Int) ^ (k + 1) = 2 * ((2 ^ k : Nat) : Int) := by
    rw [Int.pow_succ, Int.natCast_pow]
    show (2 : Int) ^ k * 2 = 2 * (2 : Int) ^ k
    omega
  have hmem := mem_put (al := al) hfT (x := c.1 + ((2 ^ k : Nat) : Int)) (y := c.2 + ((2 ^ k : Nat) : Int)) (by omega) (by rw [hp]; omega) (by omega) (by rw [hp]; omega) (-((2 ^ k : Nat) : Int)) (-((2 ^ k : Nat) : Int))
  rw [show -((2 ^ k : Nat) : Int) + (c.1 + ((2 ^ k : Nat) : Int)) = c.1 by omega, show -((2 ^ k : Nat) : Int) + (c.2 + ((2 ^ k : Nat) : Int)) = c.2 by omega] at hmem
  have hcn2 := cnt_put (x := c.1 + ((2 ^ k : Nat) : Int)) (y := c.2 + ((2 ^ k : Nat) : Int)) (al := al) hfT
  have hlen2 := cellsT_len (-((2 ^ k : Nat) : Int)) (-((2 ^ k : Nat) : Int)) (full_put (x := c.1 + ((2 ^ k : Nat) : Int)) (y := c.2 + ((2 ^ k : Nat) : Int)) (al := al) hfT)
  obtain ⟨C, hC⟩ : ∃ C, C = cellsT (k + 1) (putT (k + 1) (c.1 + ((2 ^ k : Nat) : Int)) (c.2 + ((2 ^ k : Nat) : Int)) al T) (-((2 ^ k : Nat) : Int)) (-((2 ^ k : Nat) : Int)) := ⟨_, rfl⟩
  rw [← hC] at hmem hlen2 ⊢
  have hm2 : ∀ z, z ∈ C ↔ (z = c ∧ al = true) ∨ (z ≠ c ∧ z ∈ s) := fun z => by rw [hmem z, hmb z]
  have hr : Rising [c] := by simp [Rising]
  obtain ⟨h1, h2⟩ := pickF_spec keep s [c] hrs hr
  unfold tidyF
  rw [if_neg (by omega), if_neg (fun e => by
    obtain ⟨z, hz, hf⟩ := List.any_eq_true.1 e
    rcases (hm2 z).1 hz with ⟨e1, _⟩ | ⟨_, e1⟩
    · rw [e1, hfar] at hf; cases hf
    · rw [hfs z e1] at hf; cases hf)]
  congr 1
  refine sortF_eq h1 fun z => ?_
  rw [hm2, h2]
  simp only [List.mem_singleton, hkeep]
  by_cases hz : z = c
  · subst hz
    simp
  · simp [hz]
end Go.Proofs.Ytdmamecfmfhlmaa
