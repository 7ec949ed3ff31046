/-
  Which cells live next, as both programs count them: plain lists.
-/
import Derived.Test.YtffgpjkkgndkiaaNextMath
import Derived.Test.YtffgpjkkgndkiaaMergeMath
import Derived.Test.YtffgpjkkgndkiaaGoods
namespace Go.Proofs.Ytffgpjkkgndkiaa
set_option maxRecDepth 100000

/-- The i-th of the nine cells at c. -/
def ninth (c : Int × Int) (i : Nat) : Int × Int := (c.1 + ((i % 3 : Nat) : Int) - 1, c.2 + ((i / 3 : Nat) : Int) - 1)
def nineC (c : Int × Int) : List (Int × Int) := (List.range 9).map (ninth c)
def nineV (c : Int × Int) : List ((Int × Int) × Int) := (List.range 9).map fun i => (ninth c i, if i = 4 then 0 else 1)
theorem nineC_eq (c : Int × Int) : nineC c = nineF c := by
  obtain ⟨x, y⟩ := c
  have hr : List.range 9 = [0, 1, 2, 3, 4, 5, 6, 7, 8] := rfl
  rw [nineC, nineF, hr]
  simp [ninth] <;> omega
theorem nineV_fst (c : Int × Int) : (nineV c).map (·.1) = nineC c := by simp [nineV, nineC]
theorem nineC_get {c : Int × Int} {i : Nat} (h : i < 9) : (nineC c)[i]? = some (ninth c i) := by simp [nineC, h]
theorem nineV_get {c : Int × Int} {i : Nat} (h : i < 9) : (nineV c)[i]? = some (ninth c i, if i = 4 then 0 else 1) := by simp [nineV, h]
theorem nineV_len (c : Int × Int) : (nineV c).length = 9 := by simp [nineV]
theorem nineC_len (c : Int × Int) : (nineC c).length = 9 := by simp [nineC]
/-- How often a cell has been told of, in a list of tellings. -/
def sumV (V : List ((Int × Int) × Int)) (d : Int × Int) : Int := (V.map fun p => if p.1 = d then p.2 else 0).sum
theorem sumV_append (V W : List ((Int × Int) × Int)) (d : Int × Int) : sumV (V ++ W) d = sumV V d + sumV W d := by simp [sumV]
theorem sumV_absent {V : List ((Int × Int) × Int)} {d : Int × Int} (h : d ∉ V.map (·.1)) : sumV V d = 0 := by
  induction V with
  | nil => rfl
  | cons p V ih =>
    simp only [List.map_cons, List.mem_cons, not_or] at h
    have : sumV (p :: V) d = (if p.1 = d then p.2 else 0) + sumV V d := by simp [sumV]
    rw [this, ih h.2, if_neg (fun e => h.1 e.symm)]
    rfl
theorem nineV_eq (x y : Int) : nineV (x, y) = [((x - 1, y - 1), 1), ((x, y - 1), 1), ((x + 1, y - 1), 1), ((x - 1, y), 1), ((x, y), 0), ((x + 1, y), 1), ((x - 1, y + 1), 1), ((x, y + 1), 1), ((x + 1, y + 1), 1)] := by
  have hr : List.range 9 = [0, 1, 2, 3, 4, 5, 6, 7, 8] := rfl
  rw [nineV, hr]
  simp [ninth] <;> omega
theorem sum_ifs (A B C D E F : Prop) [Decidable A] [Decidable B] [Decidable C] [Decidable D] [Decidable E] [Decidable F] (h1 : ¬ (A ∧ B)) (h2 : ¬ (A ∧ C)) (h3 : ¬ (B ∧ C)) (h4 : ¬ (D ∧ E)) (h5 : ¬ (D ∧ F)) (h6 : ¬ (E ∧ F)) :
    (if A ∧ D then (1 : Int) else 0) + ((if B ∧ D then 1 else 0) + ((if C ∧ D then 1 else 0) + ((if A ∧ E then 1 else 0) + ((if C ∧ E then 1 else 0) + ((if A ∧ F then 1 else 0) + ((if B ∧ F then 1 else 0) + (if C ∧ F then 1 else 0))))))) =
      if (A ∧ D) ∨ (B ∧ D) ∨ (C ∧ D) ∨ (A ∧ E) ∨ (C ∧ E) ∨ (A ∧ F) ∨ (B ∧ F) ∨ (C ∧ F) then 1 else 0 := by
  by_cases a : A <;> by_cases b : B <;> by_cases c : C <;> by_cases d : D <;> by_cases e : E <;> by_cases f : F <;> simp_all
theorem sumV_nine (c d : Int × Int) : sumV (nineV c) d = if d ∈ eightF c then 1 else 0 := by
  obtain ⟨x, y⟩ := c
  obtain ⟨u, v⟩ := d
  have h := sum_ifs (x - 1 = u) (x = u) (x + 1 = u) (y - 1 = v) (y = v) (y + 1 = v) (by omega) (by omega) (by omega) (by omega) (by omega) (by omega)
  rw [nineV_eq, sumV]
  simp only [List.map_cons, List.map_nil, List.sum_cons, List.sum_nil, Prod.mk.injEq, ite_self, Int.zero_add, Int.add_zero]
  rw [h]
  have e : ((u, v) ∈ eightF (x, y)) ↔ ((x - 1 = u ∧ y - 1 = v) ∨ (x = u ∧ y - 1 = v) ∨ (x + 1 = u ∧ y - 1 = v) ∨ (x - 1 = u ∧ y = v) ∨ (x + 1 = u ∧ y = v) ∨ (x - 1 = u ∧ y + 1 = v) ∨ (x = u ∧ y + 1 = v) ∨ (x + 1 = u ∧ y + 1 = v)) := by
    simp only [eightF, List.mem_cons, List.not_mem_nil, or_false, Prod.mk.injEq, @eq_comm Int u, @eq_comm Int v]
  by_cases hq : (u, v) ∈ eightF (x, y)
  · rw [if_pos hq, if_pos (e.1 hq)]
  · rw [if_neg hq, if_neg (fun h' => hq (e.2 h'))]
theorem mem_eight (c d : Int × Int) : d ∈ eightF c ↔ (c.1 - 1 ≤ d.1 ∧ d.1 ≤ c.1 + 1 ∧ c.2 - 1 ≤ d.2 ∧ d.2 ≤ c.2 + 1 ∧ ¬ (d.1 = c.1 ∧ d.2 = c.2)) := by
  obtain ⟨x, y⟩ := c
  obtain ⟨u, v⟩ := d
  simp only [eightF, List.mem_cons, List.not_mem_nil, or_false, Prod.mk.injEq]
  constructor
  · rintro (⟨rfl, rfl⟩ | ⟨rfl, rfl⟩ | ⟨rfl, rfl⟩ | ⟨rfl, rfl⟩ | ⟨rfl, rfl⟩ | ⟨rfl, rfl⟩ | ⟨rfl, rfl⟩ | ⟨rfl, rfl⟩) <;> omega
  · rintro ⟨h1, h2, h3, h4, h5⟩
    rcases (show u = x - 1 ∨ u = x ∨ u = x + 1 by omega) with rfl | rfl | rfl <;> rcases (show v = y - 1 ∨ v = y ∨ v = y + 1 by omega) with rfl | rfl | rfl
    · exact .inl ⟨rfl, rfl⟩
    · exact .inr (.inr (.inr (.inl ⟨rfl, rfl⟩)))
    · exact .inr (.inr (.inr (.inr (.inr (.inl ⟨rfl, rfl⟩)))))
    · exact .inr (.inl ⟨rfl, rfl⟩)
    · exact absurd ⟨rfl, rfl⟩ h5
    · exact .inr (.inr (.inr (.inr (.inr (.inr (.inl ⟨rfl, rfl⟩))))))
    · exact .inr (.inr (.inl ⟨rfl, rfl⟩))
    · exact .inr (.inr (.inr (.inr (.inl ⟨rfl, rfl⟩))))
    · exact .inr (.inr (.inr (.inr (.inr (.inr (.inr ⟨rfl, rfl⟩))))))
theorem eight_sym (c d : Int × Int) : d ∈ eightF c ↔ c ∈ eightF d := by
  rw [mem_eight, mem_eight]
  constructor <;> intro h <;> omega
theorem eight_nodup (c : Int × Int) : (eightF c).Nodup := by
  obtain ⟨x, y⟩ := c
  simp [eightF]
  omega
theorem sumV_all (d : Int × Int) : ∀ s : List (Int × Int), sumV (s.flatMap nineV) d = ((s.filter fun c => decide (d ∈ eightF c)).length : Nat)
  | [] => rfl
  | c :: s => by
    rw [List.flatMap_cons, sumV_append, sumV_nine, sumV_all d s, List.filter_cons]
    by_cases h : d ∈ eightF c
    · simp [h]; omega
    · simp [h]
theorem sumV_near {s : List (Int × Int)} (hs : s.Nodup) (d : Int × Int) : sumV (s.flatMap nineV) d = (nearF s d : Nat) := by
  rw [sumV_all, nearF]
  congr 1
  refine (perm_of_nodup (hs.filter _) ((eight_nodup d).filter _) fun c => ?_).length_eq
  rw [List.mem_filter, List.mem_filter, decide_eq_true_iff, decide_eq_true_iff, eight_sym]
  exact And.comm
/-- Each once. -/
def onceF : List (Int × Int) → List (Int × Int)
  | [] => []
  | a :: l => if a ∈ l then onceF l else a :: onceF l
theorem mem_onceF (c : Int × Int) : ∀ l, c ∈ onceF l ↔ c ∈ l
  | [] => Iff.rfl
  | a :: l => by
    rw [onceF, List.mem_cons]
    split
    · next h =>
      rw [mem_onceF c l]
      constructor
      · exact .inr
      · rintro (rfl | h')
        · exact h
        · exact h'
    · rw [List.mem_cons, mem_onceF c l]
theorem nodup_onceF : ∀ l, (onceF l).Nodup
  | [] => List.nodup_nil
  | a :: l => by
    rw [onceF]
    split
    · exact nodup_onceF l
    · next h => exact List.nodup_cons.2 ⟨fun h' => h ((mem_onceF a l).1 h'), nodup_onceF l⟩
/-- The cells that live next. -/
def nextC (b l : Int) (s : List (Int × Int)) : List (Int × Int) := (onceF (s.flatMap nineC)).filter fun d => livesF b l (decide (d ∈ s)) (nearF s d : Nat)
theorem mem_nextC (b l : Int) (s : List (Int × Int)) (d : Int × Int) : d ∈ nextC b l s ↔ d ∈ s.flatMap nineC ∧ livesF b l (decide (d ∈ s)) (nearF s d : Nat) = true := by
  rw [nextC, List.mem_filter, mem_onceF]
theorem nodup_nextC (b l : Int) (s : List (Int × Int)) : (nextC b l s).Nodup := (nodup_onceF _).filter _
theorem nextC_tidy {b l : Int} {s out : List (Int × Int)} (hn : out.Nodup) (hm : ∀ d, d ∈ out ↔ d ∈ s.flatMap nineC ∧ livesF b l (decide (d ∈ s)) (nearF s d : Nat) = true) : tidyF out = tidyF (nextC b l s) :=
  tidyF_same hn (nodup_nextC b l s) fun d => by rw [hm, mem_nextC]
/-- P2.4. -/
def nextF (b l : Int) (zs : List (Int × Int)) : List (Int × Int) × Int :=
  if goodF b l = false then ([], 4) else if (tidyF zs).2 ≠ 0 then ([], (tidyF zs).2) else tidyF (nextC b l (tidyF zs).1)
end Go.Proofs.Ytffgpjkkgndkiaa
