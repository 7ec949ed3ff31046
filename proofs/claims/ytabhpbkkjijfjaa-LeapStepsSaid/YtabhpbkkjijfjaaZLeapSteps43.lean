/-
  Which cells live next: plain lists; Cells moved; lists of cells merged: plain lists; Which cells live next, as both programs count them: plain lists.
-/
import Derived.Test.YtabhpbkkjijfjaaZLeapSteps4
import Derived.Test.YtabhpbkkjijfjaaZLeapSteps38
namespace Go.Proofs.Ytabhpbkkjijfjaa
set_option maxRecDepth 100000

theorem perm_of_nodup : ∀ {l m : List (Int × Int)}, l.Nodup → m.Nodup → (∀ c, c ∈ l ↔ c ∈ m) → l.Perm m
  | [], m, _, _, h => by
    have : m = [] := List.eq_nil_iff_forall_not_mem.2 fun c hc => by have := (h c).2 hc; cases this
    subst this
    exact .refl _
  | a :: l, m, hl, hm, h => by
    have h1 := List.nodup_cons.1 hl
    have ha : a ∈ m := (h a).1 (List.mem_cons_self ..)
    have hp : m.Perm (a :: m.erase a) := List.perm_cons_erase ha
    refine .trans (.cons a (perm_of_nodup h1.2 (hm.erase a) fun c => ?_)) hp.symm
    rw [hm.mem_erase_iff]
    constructor
    · intro hc
      refine ⟨fun e => h1.1 (by rw [← e]; exact hc), (h c).1 (List.mem_cons_of_mem _ hc)⟩
    · rintro ⟨hne, hc⟩
      rcases List.mem_cons.1 ((h c).2 hc) with e | hc'
      · exact absurd e hne
      · exact hc'
/-- What is no list's twice, is tidied alike, whatever its order. -/
theorem tidyF_perm {l m : List (Int × Int)} (h : l.Perm m) : tidyF l = tidyF m := by
  have h1 : l.length = m.length := h.length_eq
  have h2 : l.any farC = m.any farC := by
    rw [Bool.eq_iff_iff, List.any_eq_true, List.any_eq_true]
    constructor
    · rintro ⟨c, hc, hf⟩; exact ⟨c, h.mem_iff.1 hc, hf⟩
    · rintro ⟨c, hc, hf⟩; exact ⟨c, h.mem_iff.2 hc, hf⟩
  have h3 : sortF l = sortF m := sortF_eq (rising_sortF m) fun x => by rw [mem_sortF]; exact h.mem_iff.symm
  unfold tidyF
  rw [h1, h2, h3]
theorem tidyF_same {l m : List (Int × Int)} (hl : l.Nodup) (hm : m.Nodup) (h : ∀ c, c ∈ l ↔ c ∈ m) : tidyF l = tidyF m := tidyF_perm (perm_of_nodup hl hm h)
theorem rising_nodup {l : List (Int × Int)} (h : Rising l) : l.Nodup := h.imp fun {a b} hab e => by subst e; rw [cellLt_irrefl] at hab; cases hab

/-- The nine cells at a cell, row by row. -/
def nineF (c : Int × Int) : List (Int × Int) := [(c.1 - 1, c.2 - 1), (c.1, c.2 - 1), (c.1 + 1, c.2 - 1), (c.1 - 1, c.2), (c.1, c.2), (c.1 + 1, c.2), (c.1 - 1, c.2 + 1), (c.1, c.2 + 1), (c.1 + 1, c.2 + 1)]
def eightF (c : Int × Int) : List (Int × Int) := [(c.1 - 1, c.2 - 1), (c.1, c.2 - 1), (c.1 + 1, c.2 - 1), (c.1 - 1, c.2), (c.1 + 1, c.2), (c.1 - 1, c.2 + 1), (c.1, c.2 + 1), (c.1 + 1, c.2 + 1)]
/-- How many of its eight neighbours live. -/
def nearF (s : List (Int × Int)) (d : Int × Int) : Nat := ((eightF d).filter fun c => decide (c ∈ s)).length
end Go.Proofs.Ytabhpbkkjijfjaa
namespace Go.Proofs.Ytabhpbkkjijfjaa
set_option maxRecDepth 100000

def moveC (dx dy : Int) (c : Int × Int) : Int × Int := (c.1 + dx, c.2 + dy)
def wideF (d : Int) : Bool := decide (d ≤ -2199023255552) || decide (2199023255552 ≤ d)
/-- P1.3. -/
def shiftF (l : List (Int × Int)) (dx dy : Int) : List (Int × Int) × Int :=
  if (tidyF l).2 ≠ 0 then ([], (tidyF l).2)
  else if wideF dx || wideF dy then ([], 3)
  else if ((tidyF l).1.map (moveC dx dy)).any farC then ([], 3)
  else ((tidyF l).1.map (moveC dx dy), 0)
theorem tidyF_ok {l : List (Int × Int)} (h : (tidyF l).2 = 0) : l.length ≤ 4096 ∧ l.any farC = false ∧ tidyF l = (sortF l, 0) := by
  unfold tidyF at h ⊢
  split at h
  · simp at h
  · next h1 =>
    split at h
    · simp at h
    · next h2 => exact ⟨by omega, by simpa using h2, by rw [if_neg h1, if_neg h2]⟩
theorem tidyF_err (l : List (Int × Int)) : (tidyF l).2 = 0 ∨ ((tidyF l).2 ≠ 0 ∧ (tidyF l).1 = []) := by
  unfold tidyF
  split
  · exact .inr ⟨by simp, rfl⟩
  · split
    · exact .inr ⟨by simp, rfl⟩
    · exact .inl rfl
theorem tidyF_rising (l : List (Int × Int)) : Rising (tidyF l).1 := by
  unfold tidyF
  split
  · exact List.Pairwise.nil
  · split
    · exact List.Pairwise.nil
    · exact rising_sortF l
theorem rising_map {l : List (Int × Int)} (dx dy : Int) (h : Rising l) : Rising (l.map (moveC dx dy)) := by
  unfold Rising at *
  rw [List.pairwise_map]
  refine h.imp fun {a b} hab => ?_
  rw [cellLt_iff] at *
  simp only [moveC]
  omega
theorem shift_tidy (l : List (Int × Int)) (dx dy : Int) : tidyF ((tidyF l).1.map (moveC dx dy)) = if ((tidyF l).1.map (moveC dx dy)).any farC then ([], 3) else ((tidyF l).1.map (moveC dx dy), 0) := by
  have hl := tidyF_length l
  rw [tidyF.eq_1 ((tidyF l).1.map (moveC dx dy)), if_neg (by rw [List.length_map]; omega)]
  split
  · rfl
  · rw [sortF_rising (rising_map dx dy (tidyF_rising l))]

/-- The cells of two rising lists of which keep says yes, merged. -/
def pickF (keep : Bool → Bool → Bool) : List (Int × Int) → List (Int × Int) → List (Int × Int)
  | [], [] => []
  | a :: x, [] => (if keep true false then [a] else []) ++ pickF keep x []
  | [], b :: y => (if keep false true then [b] else []) ++ pickF keep [] y
  | a :: x, b :: y => if cellLt a b then (if keep true false then [a] else []) ++ pickF keep x (b :: y)
    else if cellLt b a then (if keep false true then [b] else []) ++ pickF keep (a :: x) y
    else (if keep true true then [a] else []) ++ pickF keep x y
termination_by x y => x.length + y.length
theorem mem_one {p : Bool} {a c : Int × Int} : c ∈ (if p then [a] else []) ↔ p = true ∧ c = a := by cases p <;> simp
theorem pickF_spec (keep : Bool → Bool → Bool) : ∀ (x y : List (Int × Int)), Rising x → Rising y →
    Rising (pickF keep x y) ∧ ∀ c, c ∈ pickF keep x y ↔ (c ∈ x ∨ c ∈ y) ∧ keep (decide (c ∈ x)) (decide (c ∈ y)) = true
  | [], [], _, _ => by rw [pickF]; exact ⟨List.Pairwise.nil, fun c => by simp⟩
  | a :: x, [], hx, hy => by
    have h1 := List.pairwise_cons.1 hx
    obtain ⟨r, m⟩ := pickF_spec keep x [] h1.2 hy
    have hax : a ∉ x := fun h => by have := h1.1 a h; rw [cellLt_irrefl] at this; cases this
    rw [pickF]
    refine ⟨?_, fun c => ?_⟩
    · cases hk : keep true false
      · simpa using r
      · refine List.pairwise_cons.2 ⟨fun c hc => ?_, r⟩
        have := ((m c).1 hc).1
        simp at this
        exact h1.1 c this
    · rw [List.mem_append, mem_one, m]
      by_cases hc : c = a
      · subst hc; simp [hax]
      · simp [hc]
  | [], b :: y, hx, hy => by
    have h1 := List.pairwise_cons.1 hy
    obtain ⟨r, m⟩ := pickF_spec keep [] y hx h1.2
    have hby : b ∉ y := fun h => by have := h1.1 b h; rw [cellLt_irrefl] at this; cases this
    rw [pickF]
    refine ⟨?_, fun c => ?_⟩
    · cases hk : keep false true
      · simpa using r
      · refine List.pairwise_cons.2 ⟨fun c hc => ?_, r⟩
        have := ((m c).1 hc).1
        simp at this
        exact h1.1 c this
    · rw [List.mem_append, mem_one, m]
      by_cases hc : c = b
      · subst hc; simp [hby]
      · simp [hc]
  | a :: x, b :: y, hx, hy => by
    have h1 := List.pairwise_cons.1 hx
    have h2 := List.pairwise_cons.1 hy
    have hax : a ∉ x := fun h => by have := h1.1 a h; rw [cellLt_irrefl] at this; cases this
    have hby : b ∉ y := fun h => by have := h2.1 b h; rw [cellLt_irrefl] at this; cases this
    rw [pickF]
    split
    · next hab =>
      obtain ⟨r, m⟩ := pickF_spec keep x (b :: y) h1.2 hy
      have hay : a ∉ b :: y := fun h => by
        rcases List.mem_cons.1 h with e | h
        · subst e; rw [cellLt_irrefl] at hab; cases hab
        · have := cellLt_trans hab (h2.1 a h); rw [cellLt_irrefl] at this; cases this
      refine ⟨?_, fun c => ?_⟩
      · cases hk : keep true false
        · simpa using r
        · refine List.pairwise_cons.2 ⟨fun c hc => ?_, r⟩
          rcases ((m c).1 hc).1 with h | h
          · exact h1.1 c h
          · rcases List.mem_cons.1 h with e | h
            · subst e; exact hab
            · exact cellLt_trans hab (h2.1 c h)
      · rw [List.mem_append, mem_one, m]
        by_cases hc : c = a
        · subst hc; simp [hax, hay]
        · simp [hc]
    · next hab =>
      split
      · next hba =>
        obtain ⟨r, m⟩ := pickF_spec keep (a :: x) y hx h2.2
        have hbx : b ∉ a :: x := fun h => by
          rcases List.mem_cons.1 h with e | h
          · subst e; rw [cellLt_irrefl] at hba; cases hba
          · have := cellLt_trans hba (h1.1 b h); rw [cellLt_irrefl] at this; cases this
        refine ⟨?_, fun c => ?_⟩
        · cases hk : keep false true
          · simpa using r
          · refine List.pairwise_cons.2 ⟨fun c hc => ?_, r⟩
            rcases ((m c).1 hc).1 with h | h
            · rcases List.mem_cons.1 h with e | h
              · subst e; exact hba
              · exact cellLt_trans hba (h1.1 c h)
            · exact h2.1 c h
        · rw [List.mem_append, mem_one, m]
          by_cases hc : c = b
          · subst hc; simp [hby, hbx]
          · simp [hc]
      · next hba =>
        have e : a = b := by
          rcases cellLt_total a b with h | h | h
          · exact absurd h hab
          · exact h
          · exact absurd h hba
        subst e
        obtain ⟨r, m⟩ := pickF_spec keep x y h1.2 h2.2
        refine ⟨?_, fun c => ?_⟩
        · cases hk : keep true true
          · simpa using r
          · refine List.pairwise_cons.2 ⟨fun c hc => ?_, r⟩
            rcases ((m c).1 hc).1 with h | h
            · exact h1.1 c h
            · exact h2.1 c h
        · rw [List.mem_append, mem_one, m]
          by_cases hc : c = a
          · subst hc; simp [hax, hby]
          · simp [hc]
termination_by x y => x.length + y.length
/-- P1.2. -/
def mergeF (keep : Bool → Bool → Bool) (l m : List (Int × Int)) : List (Int × Int) × Int :=
  if (tidyF l).2 ≠ 0 then ([], (tidyF l).2)
  else if (tidyF m).2 ≠ 0 then ([], (tidyF m).2)
  else if 4096 < (pickF keep (tidyF l).1 (tidyF m).1).length then ([], 5)
  else (pickF keep (tidyF l).1 (tidyF m).1, 0)
end Go.Proofs.Ytabhpbkkjijfjaa
namespace Go.Proofs.Ytabhpbkkjijfjaa
set_option maxRecDepth 100000

/-- The i-th of the nine cells at c. -/
def ninth (c : Int × Int) (i : Nat) : Int × Int := (c.1 + ((i % 3 : Nat) : Int) - 1, c.2 + ((i / 3 : Nat) : Int) - 1)
def nineC (c : Int × Int) : List (Int × Int) := (List.range 9).map (ninth c)
def nineV (c : Int × Int) : List ((Int × Int) × Int) := (List.range 9).map fun i => (ninth c i, if i = 4 then 0 else 1)
theorem nineC_eq (c : Int × Int) : nineC c = nineF c := by
  obtain ⟨x, y⟩ := c
  have hr : List.range 9 = [0, 1, 2, 3, 4, 5, 6, 7, 8] := rfl
  rw [nineC, nineF, hr]
  simp [ninth] <;> omega
theorem nineV_fst (c : Int × Int) : (nineV c).map (·.1) = nineC c := by simp [nineV, nineC]
theorem nineC_get {c : Int × Int} {i : Nat} (h : i < 9) : (nineC c)[i]? = some (ninth c i) := by simp [nineC, h]
theorem nineV_get {c : Int × Int} {i : Nat} (h : i < 9) : (nineV c)[i]? = some (ninth c i, if i = 4 then 0 else 1) := by simp [nineV, h]
theorem nineV_len (c : Int × Int) : (nineV c).length = 9 := by simp [nineV]
theorem nineC_len (c : Int × Int) : (nineC c).length = 9 := by simp [nineC]
/-- How often a cell has been told of, in a list of tellings. -/
def sumV (V : List ((Int × Int) × Int)) (d : Int × Int) : Int := (V.map fun p => if p.1 = d then p.2 else 0).sum
theorem sumV_append (V W : List ((Int × Int) × Int)) (d : Int × Int) : sumV (V ++ W) d = sumV V d + sumV W d := by simp [sumV]
theorem sumV_absent {V : List ((Int × Int) × Int)} {d : Int × Int} (h : d ∉ V.map (·.1)) : sumV V d = 0 := by
  induction V with
  | nil => rfl
  | cons p V ih =>
    simp only [List.map_cons, List.mem_cons, not_or] at h
    have : sumV (p :: V) d = (if p.1 = d then p.2 else 0) + sumV V d := by simp [sumV]
    rw [this, ih h.2, if_neg (fun e => h.1 e.symm)]
    rfl
theorem nineV_eq (x y : Int) : nineV (x, y) = [((x - 1, y - 1), 1), ((x, y - 1), 1), ((x + 1, y - 1), 1), ((x - 1, y), 1), ((x, y), 0), ((x + 1, y), 1), ((x - 1, y + 1), 1), ((x, y + 1), 1), ((x + 1, y + 1), 1)] := by
  have hr : List.range 9 = [0, 1, 2, 3, 4, 5, 6, 7, 8] := rfl
  rw [nineV, hr]
  simp [ninth] <;> omega
theorem sum_ifs (A B C D E F : Prop) [Decidable A] [Decidable B] [Decidable C] [Decidable D] [Decidable E] [Decidable F] (h1 : ¬ (A ∧ B)) (h2 : ¬ (A ∧ C)) (h3 : ¬ (B ∧ C)) (h4 : ¬ (D ∧ E)) (h5 : ¬ (D ∧ F)) (h6 : ¬ (E ∧ F)) :
    (if A ∧ D then (1 : Int) else 0) + ((if B ∧ D then 1 else 0) + ((if C ∧ D then 1 else 0) + ((if A ∧ E then 1 else 0) + ((if C ∧ E then 1 else 0) + ((if A ∧ F then 1 else 0) + ((if B ∧ F then 1 else 0) + (if C ∧ F then 1 else 0))))))) =
      if (A ∧ D) ∨ (B ∧ D) ∨ (C ∧ D) ∨ (A ∧ E) ∨ (C ∧ E) ∨ (A ∧ F) ∨ (B ∧ F) ∨ (C ∧ F) then 1 else 0 := by
  by_cases a : A <;> by_cases b : B <;> by_cases c : C <;> by_cases d : D <;> by_cases e : E <;> by_cases f : F <;> simp_all
theorem sumV_nine (c d : Int × Int) : sumV (nineV c) d = if d ∈ eightF c then 1 else 0 := by
  obtain ⟨x, y⟩ := c
  obtain ⟨u, v⟩ := d
  have h := sum_ifs (x - 1 = u) (x = u) (x + 1 = u) (y - 1 = v) (y = v) (y + 1 = v) (by omega) (by omega) (by omega) (by omega) (by omega) (by omega)
  rw [nineV_eq, sumV]
  simp only [List.map_cons, List.map_nil, List.sum_cons, List.sum_nil, Prod.mk.injEq, ite_self, Int.zero_add, Int.add_zero]
  rw [h]
  have e : ((u, v) ∈ eightF (x, y)) ↔ ((x - 1 = u ∧ y - 1 = v) ∨ (x = u ∧ y - 1 = v) ∨ (x + 1 = u ∧ y - 1 = v) ∨ (x - 1 = u ∧ y = v) ∨ (x + 1 = u ∧ y = v) ∨ (x - 1 = u ∧ y + 1 = v) ∨ (x = u ∧ y + 1 = v) ∨ (x + 1 = u ∧ y + 1 = v)) := by
    simp only [eightF, List.mem_cons, List.not_mem_nil, or_false, Prod.mk.injEq, @eq_comm Int u, @eq_comm Int v]
  by_cases hq : (u, v) ∈ eightF (x, y)
  · rw [if_pos hq, if_pos (e.1 hq)]
  · rw [if_neg hq, if_neg (fun h' => hq (e.2 h'))]
theorem mem_eight (c d : Int × Int) : d ∈ eightF c ↔ (c.1 - 1 ≤ d.1 ∧ d.1 ≤ c.1 + 1 ∧ c.2 - 1 ≤ d.2 ∧ d.2 ≤ c.2 + 1 ∧ ¬ (d.1 = c.1 ∧ d.2 = c.2)) := by
  obtain ⟨x, y⟩ := c
  obtain ⟨u, v⟩ := d
  simp only [eightF, List.mem_cons, List.not_mem_nil, or_false, Prod.mk.injEq]
  constructor
  · rintro (⟨rfl, rfl⟩ | ⟨rfl, rfl⟩ | ⟨rfl, rfl⟩ | ⟨rfl, rfl⟩ | ⟨rfl, rfl⟩ | ⟨rfl, rfl⟩ | ⟨rfl, rfl⟩ | ⟨rfl, rfl⟩) <;> omega
  · rintro ⟨h1, h2, h3, h4, h5⟩
    rcases (show u = x - 1 ∨ u = x ∨ u = x + 1 by omega) with rfl | rfl | rfl <;> rcases (show v = y - 1 ∨ v = y ∨ v = y + 1 by omega) with rfl | rfl | rfl
    · exact .inl ⟨rfl, rfl⟩
    · exact .inr (.inr (.inr (.inl ⟨rfl, rfl⟩)))
    · exact .inr (.inr (.inr (.inr (.inr (.inl ⟨rfl, rfl⟩)))))
    · exact .inr (.inl ⟨rfl, rfl⟩)
    · exact absurd ⟨rfl, rfl⟩ h5
    · exact .inr (.inr (.inr (.inr (.inr (.inr (.inl ⟨rfl, rfl⟩))))))
    · exact .inr (.inr (.inl ⟨rfl, rfl⟩))
    · exact .inr (.inr (.inr (.inr (.inl ⟨rfl, rfl⟩))))
    · exact .inr (.inr (.inr (.inr (.inr (.inr (.inr ⟨rfl, rfl⟩))))))
theorem eight_sym (c d : Int × Int) : d ∈ eightF c ↔ c ∈ eightF d := by
  rw [mem_eight, mem_eight]
  constructor <;> intro h <;> omega
theorem eight_nodup (c : Int × Int) : (eightF c).Nodup := by
  obtain ⟨x, y⟩ := c
  simp [eightF]
  omega
theorem sumV_all (d : Int × Int) : ∀ s : List (Int × Int), sumV (s.flatMap nineV) d = ((s.filter fun c => decide (d ∈ eightF c)).length : Nat)
  | [] => rfl
  | c :: s => by
    rw [List.flatMap_cons, sumV_append, sumV_nine, sumV_all d s, List.filter_cons]
    by_cases h : d ∈ eightF c
    · simp [h]; omega
    · simp [h]
theorem sumV_near {s : List (Int × Int)} (hs : s.Nodup) (d : Int × Int) : sumV (s.flatMap nineV) d = (nearF s d : Nat) := by
  rw [sumV_all, nearF]
  congr 1
  refine (perm_of_nodup (hs.filter _) ((eight_nodup d).filter _) fun c => ?_).length_eq
  rw [List.mem_filter, List.mem_filter, decide_eq_true_iff, decide_eq_true_iff, eight_sym]
  exact And.comm
/-- Each once. -/
def onceF : List (Int × Int) → List (Int × Int)
  | [] => []
  | a :: l => if a ∈ l then onceF l else a :: onceF l
theorem mem_onceF (c : Int × Int) : ∀ l, c ∈ onceF l ↔ c ∈ l
  | [] => Iff.rfl
  | a :: l => by
    rw [onceF, List.mem_cons]
    split
    · next h =>
      rw [mem_onceF c l]
      constructor
      · exact .inr
      · rintro (rfl | h')
        · exact h
        · exact h'
    · rw [List.mem_cons, mem_onceF c l]
theorem nodup_onceF : ∀ l, (onceF l).Nodup
  | [] => List.nodup_nil
  | a :: l => by
    rw [onceF]
    split
    · exact nodup_onceF l
    · next h => exact List.nodup_cons.2 ⟨fun h' => h ((mem_onceF a l).1 h'), nodup_onceF l⟩
/-- The cells that live next. -/
def nextC (b l : Int) (s : List (Int × Int)) : List (Int × Int) := (onceF (s.flatMap nineC)).filter fun d => livesF b l (decide (d ∈ s)) (nearF s d : Nat)
theorem mem_nextC (b l : Int) (s : List (Int × Int)) (d : Int × Int) : d ∈ nextC b l s ↔ d ∈ s.flatMap nineC ∧ livesF b l (decide (d ∈ s)) (nearF s d : Nat) = true := by
  rw [nextC, List.mem_filter, mem_onceF]
theorem nodup_nextC (b l : Int) (s : List (Int × Int)) : (nextC b l s).Nodup := (nodup_onceF _).filter _
theorem nextC_tidy {b l : Int} {s out : List (Int × Int)} (hn : out.Nodup) (hm : ∀ d, d ∈ out ↔ d ∈ s.flatMap nineC ∧ livesF b l (decide (d ∈ s)) (nearF s d : Nat) = true) : tidyF out = tidyF (nextC b l s) :=
  tidyF_same hn (nodup_nextC b l s) fun d => by rw [hm, mem_nextC]
/-- P2.4. -/
def nextF (b l : Int) (zs : List (Int × Int)) : List (Int × Int) × Int :=
  if goodF b l = false then ([], 4) else if (tidyF zs).2 ≠ 0 then ([], (tidyF zs).2) else tidyF (nextC b l (tidyF zs).1)
end Go.Proofs.Ytabhpbkkjijfjaa
