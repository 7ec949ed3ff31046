/-
  Lists of cells in order, each once: plain lists. No program in sight.
-/
namespace Go.Proofs.Ytdmamecfmfhlmaa
set_option maxRecDepth 100000

/-- By row, then by column. -/
def cellLt (a b : Int × Int) : Bool := decide (a.2 < b.2) || (decide (a.2 = b.2) && decide (a.1 < b.1))
theorem cellLt_iff {a b : Int × Int} : cellLt a b = true ↔ a.2 < b.2 ∨ (a.2 = b.2 ∧ a.1 < b.1) := by simp [cellLt]
theorem cellLt_irrefl (a : Int × Int) : cellLt a a = false := by rw [Bool.eq_false_iff, Ne, cellLt_iff]; omega
theorem cellLt_trans {a b c : Int × Int} (h : cellLt a b = true) (k : cellLt b c = true) : cellLt a c = true := by rw [cellLt_iff] at *; omega
theorem cellLt_total (a b : Int × Int) : cellLt a b = true ∨ a = b ∨ cellLt b a = true := by
  rw [cellLt_iff, cellLt_iff]
  obtain ⟨a1, a2⟩ := a
  obtain ⟨b1, b2⟩ := b
  simp only [Prod.mk.injEq]
  omega
theorem cellLt_asymm {a b : Int × Int} (h : cellLt a b = true) : cellLt b a = false := by
  rw [Bool.eq_false_iff]
  intro k
  have := cellLt_trans h k
  rw [cellLt_irrefl] at this
  cases this
/-- In order, each once. -/
def Rising (l : List (Int × Int)) : Prop := l.Pairwise fun a b => cellLt a b = true
theorem rising_ext : ∀ {l m : List (Int × Int)}, Rising l → Rising m → (∀ c, c ∈ l ↔ c ∈ m) → l = m
  | [], [], _, _, _ => rfl
  | [], y :: m, _, _, h => absurd ((h y).2 (List.mem_cons_self ..)) (by simp)
  | x :: l, [], _, _, h => absurd ((h x).1 (List.mem_cons_self ..)) (by simp)
  | x :: l, y :: m, h1, h2, h => by
    have a1 := List.pairwise_cons.1 h1
    have a2 := List.pairwise_cons.1 h2
    have hxy : x = y := by
      rcases List.mem_cons.1 ((h x).1 (List.mem_cons_self ..)) with e | hx
      · exact e
      · rcases List.mem_cons.1 ((h y).2 (List.mem_cons_self ..)) with e | hy
        · exact e.symm
        · have := cellLt_asymm (a2.1 x hx)
          rw [a1.1 y hy] at this
          cases this
    subst hxy
    congr 1
    refine rising_ext a1.2 a2.2 fun c => ⟨fun hc => ?_, fun hc => ?_⟩
    · rcases List.mem_cons.1 ((h c).1 (List.mem_cons_of_mem _ hc)) with e | hc'
      · subst e
        have := a1.1 c hc
        rw [cellLt_irrefl] at this
        cases this
      · exact hc'
    · rcases List.mem_cons.1 ((h c).2 (List.mem_cons_of_mem _ hc)) with e | hc'
      · subst e
        have := a2.1 c hc
        rw [cellLt_irrefl] at this
        cases this
      · exact hc'
/-- A list in order with a cell more, where it belongs. -/
def putF (c : Int × Int) : List (Int × Int) → List (Int × Int)
  | [] => [c]
  | a :: r => if cellLt a c then a :: putF c r else if a = c then a :: r else c :: a :: r
theorem mem_putF (c x : Int × Int) : ∀ l, x ∈ putF c l ↔ x = c ∨ x ∈ l
  | [] => by simp [putF]
  | a :: r => by
    unfold putF
    split
    · simp only [List.mem_cons, mem_putF c x r]
      constructor
      · rintro (h | h | h)
        · exact .inr (.inl h)
        · exact .inl h
        · exact .inr (.inr h)
      · rintro (h | h | h)
        · exact .inr (.inl h)
        · exact .inl h
        · exact .inr (.inr h)
    · split
      · next h =>
        subst h
        simp only [List.mem_cons]
        constructor
        · exact .inr
        · rintro (h | h)
          · exact .inl h
          · exact h
      · simp only [List.mem_cons]
theorem rising_putF (c : Int × Int) : ∀ l, Rising l → Rising (putF c l)
  | [], _ => by simp [putF, Rising]
  | a :: r, h => by
    have h1 := List.pairwise_cons.1 h
    unfold putF
    split
    · next hac =>
      refine List.pairwise_cons.2 ⟨fun x hx => ?_, rising_putF c r h1.2⟩
      rcases (mem_putF c x r).1 hx with rfl | hx
      · exact hac
      · exact h1.1 x hx
    · next hac =>
      split
      · exact h
      · next hne =>
        have hca : cellLt c a = true := by
          rcases cellLt_total a c with h' | h' | h'
          · exact absurd h' hac
          · exact absurd h' hne
          · exact h'
        refine List.pairwise_cons.2 ⟨fun x hx => ?_, h⟩
        rcases List.mem_cons.1 hx with rfl | hx
        · exact hca
        · exact cellLt_trans hca (h1.1 x hx)
/-- The cells in order, each once. -/
def sortF (l : List (Int × Int)) : List (Int × Int) := l.foldl (fun o c => putF c o) []
theorem foldl_putF : ∀ (l o : List (Int × Int)), Rising o → Rising (l.foldl (fun o c => putF c o) o) ∧ ∀ x, x ∈ l.foldl (fun o c => putF c o) o ↔ x ∈ o ∨ x ∈ l
  | [], o, h => ⟨h, fun x => by simp⟩
  | c :: l, o, h => by
    obtain ⟨h1, h2⟩ := foldl_putF l (putF c o) (rising_putF c o h)
    refine ⟨h1, fun x => ?_⟩
    rw [List.foldl_cons, h2, mem_putF, List.mem_cons]
    constructor
    · rintro ((h | h) | h)
      · exact .inr (.inl h)
      · exact .inl h
      · exact .inr (.inr h)
    · rintro (h | h | h)
      · exact .inl (.inr h)
      · exact .inl (.inl h)
      · exact .inr h
theorem rising_sortF (l : List (Int × Int)) : Rising (sortF l) := (foldl_putF l [] List.Pairwise.nil).1
theorem mem_sortF (l : List (Int × Int)) (x : Int × Int) : x ∈ sortF l ↔ x ∈ l := by rw [sortF, (foldl_putF l [] List.Pairwise.nil).2]; simp
theorem sortF_eq {l m : List (Int × Int)} (h : Rising m) (hm : ∀ x, x ∈ m ↔ x ∈ l) : sortF l = m := rising_ext (rising_sortF l) h fun c => (mem_sortF l c).trans (hm c).symm
theorem sortF_rising {l : List (Int × Int)} (h : Rising l) : sortF l = l := sortF_eq h fun _ => Iff.rfl
theorem putF_length (c : Int × Int) : ∀ l, (putF c l).length ≤ l.length + 1
  | [] => by simp [putF]
  | a :: r => by
    unfold putF
    have := putF_length c r
    split
    · simp only [List.length_cons]; omega
    · split <;> simp only [List.length_cons] <;> omega
theorem foldl_putF_length : ∀ (l o : List (Int × Int)), (l.foldl (fun o c => putF c o) o).length ≤ o.length + l.length
  | [], o => by simp
  | c :: l, o => by
    have h1 := foldl_putF_length l (putF c o)
    have h2 := putF_length c o
    rw [List.foldl_cons, List.length_cons]
    omega
theorem sortF_length (l : List (Int × Int)) : (sortF l).length ≤ l.length := by have := foldl_putF_length l []; simpa [sortF] using this

/-- The list without the ones that stand behind their like. -/
def compF : List (Int × Int) → List (Int × Int)
  | [] => []
  | [a] => [a]
  | a :: b :: r => if a = b then compF (b :: r) else a :: compF (b :: r)
def Sorted (l : List (Int × Int)) : Prop := l.Pairwise fun a b => cellLt b a = false
theorem mem_compF (x : Int × Int) : ∀ l, x ∈ compF l ↔ x ∈ l
  | [] => by simp [compF]
  | [a] => by simp [compF]
  | a :: b :: r => by
    unfold compF
    have ih := mem_compF x (b :: r)
    split
    · next h =>
      subst h
      rw [ih]
      simp
    · rw [List.mem_cons, ih, List.mem_cons (b := a)]
theorem rising_compF : ∀ l, Sorted l → Rising (compF l)
  | [], _ => List.Pairwise.nil
  | [a], _ => by simp [compF, Rising]
  | a :: b :: r, h => by
    have h1 := List.pairwise_cons.1 h
    have ih := rising_compF (b :: r) h1.2
    unfold compF
    split
    · exact ih
    · next hne =>
      refine List.pairwise_cons.2 ⟨fun x hx => ?_, ih⟩
      have hx' := (mem_compF x (b :: r)).1 hx
      have hab : cellLt a b = true := by
        rcases cellLt_total a b with h' | h' | h'
        · exact h'
        · exact absurd h' hne
        · have := h1.1 b (List.mem_cons_self ..)
          rw [h'] at this
          cases this
      rcases List.mem_cons.1 hx' with rfl | hx''
      · exact hab
      · have h2 := (List.pairwise_cons.1 h1.2).1 x hx''
        rcases cellLt_total b x with h' | h' | h'
        · exact cellLt_trans hab h'
        · subst h'; exact hab
        · rw [h'] at h2; cases h2
theorem compF_sortF {l m : List (Int × Int)} (h : Sorted m) (hm : ∀ x, x ∈ m ↔ x ∈ l) : compF m = sortF l :=
  (sortF_eq (rising_compF m h) fun x => (mem_compF x m).trans (hm x)).symm

/-- A coordinate that lies too far. -/
def farF (n : Int) : Bool := decide (n ≤ -1099511627776) || decide (1099511627776 ≤ n)
def farC (c : Int × Int) : Bool := farF c.1 || farF c.2
/-- P1.1: the cells in order, each once, or the error. -/
def tidyF (l : List (Int × Int)) : List (Int × Int) × Int :=
  if 4096 < l.length then ([], 5) else if l.any farC then ([], 3) else (sortF l, 0)
theorem tidyF_length (l : List (Int × Int)) : (tidyF l).1.length ≤ 4096 := by
  unfold tidyF
  split
  · simp
  · split
    · simp
    · have := sortF_length l; simp only; omega
end Go.Proofs.Ytdmamecfmfhlmaa
