/-
  Lists of cells in order, each once: plain lists. No program in sight; A row of cells that is one's own: what it holds, a store into it, a part of it set to nought, a part of it copied.
-/
import Derived.Test.YtabhpbkkjijfjaaZLeapSteps2
import Derived.Test.YtabhpbkkjijfjaaZLeapStepsFoot
namespace Go.Proofs.Ytabhpbkkjijfjaa
set_option maxRecDepth 100000

/-- By row, then by column. -/
def cellLt (a b : Int × Int) : Bool := decide (a.2 < b.2) || (decide (a.2 = b.2) && decide (a.1 < b.1))
theorem cellLt_iff {a b : Int × Int} : cellLt a b = true ↔ a.2 < b.2 ∨ (a.2 = b.2 ∧ a.1 < b.1) := by simp [cellLt]
theorem cellLt_irrefl (a : Int × Int) : cellLt a a = false := by rw [Bool.eq_false_iff, Ne, cellLt_iff]; omega
theorem cellLt_trans {a b c : Int × Int} (h : cellLt a b = true) (k : cellLt b c = true) : cellLt a c = true := by rw [cellLt_iff] at *; omega
theorem cellLt_total (a b : Int × Int) : cellLt a b = true ∨ a = b ∨ cellLt b a = true := by
  rw [cellLt_iff, cellLt_iff]
  obtain ⟨a1, a2⟩ := a
  obtain ⟨b1, b2⟩ := b
  simp only [Prod.mk.injEq]
  omega
theorem cellLt_asymm {a b : Int × Int} (h : cellLt a b = true) : cellLt b a = false := by
  rw [Bool.eq_false_iff]
  intro k
  have := cellLt_trans h k
  rw [cellLt_irrefl] at this
  cases this
/-- In order, each once. -/
def Rising (l : List (Int × Int)) : Prop := l.Pairwise fun a b => cellLt a b = true
theorem rising_ext : ∀ {l m : List (Int × Int)}, Rising l → Rising m → (∀ c, c ∈ l ↔ c ∈ m) → l = m
  | [], [], _, _, _ => rfl
  | [], y :: m, _, _, h => absurd ((h y).2 (List.mem_cons_self ..)) (by simp)
  | x :: l, [], _, _, h => absurd ((h x).1 (List.mem_cons_self ..)) (by simp)
  | x :: l, y :: m, h1, h2, h => by
    have a1 := List.pairwise_cons.1 h1
    have a2 := List.pairwise_cons.1 h2
    have hxy : x = y := by
      rcases List.mem_cons.1 ((h x).1 (List.mem_cons_self ..)) with e | hx
      · exact e
      · rcases List.mem_cons.1 ((h y).2 (List.mem_cons_self ..)) with e | hy
        · exact e.symm
        · have := cellLt_asymm (a2.1 x hx)
          rw [a1.1 y hy] at this
          cases this
    subst hxy
    congr 1
    refine rising_ext a1.2 a2.2 fun c => ⟨fun hc => ?_, fun hc => ?_⟩
    · rcases List.mem_cons.1 ((h c).1 (List.mem_cons_of_mem _ hc)) with e | hc'
      · subst e
        have := a1.1 c hc
        rw [cellLt_irrefl] at this
        cases this
      · exact hc'
    · rcases List.mem_cons.1 ((h c).2 (List.mem_cons_of_mem _ hc)) with e | hc'
      · subst e
        have := a2.1 c hc
        rw [cellLt_irrefl] at this
        cases this
      · exact hc'
/-- A list in order with a cell more, where it belongs. -/
def putF (c : Int × Int) : List (Int × Int) → List (Int × Int)
  | [] => [c]
  | a :: r => if cellLt a c then a :: putF c r else if a = c then a :: r else c :: a :: r
theorem mem_putF (c x : Int × Int) : ∀ l, x ∈ putF c l ↔ x = c ∨ x ∈ l
  | [] => by simp [putF]
  | a :: r => by
    unfold putF
    split
    · simp only [List.mem_cons, mem_putF c x r]
      constructor
      · rintro (h | h | h)
        · exact .inr (.inl h)
        · exact .inl h
        · exact .inr (.inr h)
      · rintro (h | h | h)
        · exact .inr (.inl h)
        · exact .inl h
        · exact .inr (.inr h)
    · split
      · next h =>
        subst h
        simp only [List.mem_cons]
        constructor
        · exact .inr
        · rintro (h | h)
          · exact .inl h
          · exact h
      · simp only [List.mem_cons]
theorem rising_putF (c : Int × Int) : ∀ l, Rising l → Rising (putF c l)
  | [], _ => by simp [putF, Rising]
  | a :: r, h => by
    have h1 := List.pairwise_cons.1 h
    unfold putF
    split
    · next hac =>
      refine List.pairwise_cons.2 ⟨fun x hx => ?_, rising_putF c r h1.2⟩
      rcases (mem_putF c x r).1 hx with rfl | hx
      · exact hac
      · exact h1.1 x hx
    · next hac =>
      split
      · exact h
      · next hne =>
        have hca : cellLt c a = true := by
          rcases cellLt_total a c with h' | h' | h'
          · exact absurd h' hac
          · exact absurd h' hne
          · exact h'
        refine List.pairwise_cons.2 ⟨fun x hx => ?_, h⟩
        rcases List.mem_cons.1 hx with rfl | hx
        · exact hca
        · exact cellLt_trans hca (h1.1 x hx)
/-- The cells in order, each once. -/
def sortF (l : List (Int × Int)) : List (Int × Int) := l.foldl (fun o c => putF c o) []
theorem foldl_putF : ∀ (l o : List (Int × Int)), Rising o → Rising (l.foldl (fun o c => putF c o) o) ∧ ∀ x, x ∈ l.foldl (fun o c => putF c o) o ↔ x ∈ o ∨ x ∈ l
  | [], o, h => ⟨h, fun x => by simp⟩
  | c :: l, o, h => by
    obtain ⟨h1, h2⟩ := foldl_putF l (putF c o) (rising_putF c o h)
    refine ⟨h1, fun x => ?_⟩
    rw [List.foldl_cons, h2, mem_putF, List.mem_cons]
    constructor
    · rintro ((h | h) | h)
      · exact .inr (.inl h)
      · exact .inl h
      · exact .inr (.inr h)
    · rintro (h | h | h)
      · exact .inl (.inr h)
      · exact .inl (.inl h)
      · exact .inr h
theorem rising_sortF (l : List (Int × Int)) : Rising (sortF l) := (foldl_putF l [] List.Pairwise.nil).1
theorem mem_sortF (l : List (Int × Int)) (x : Int × Int) : x ∈ sortF l ↔ x ∈ l := by rw [sortF, (foldl_putF l [] List.Pairwise.nil).2]; simp
theorem sortF_eq {l m : List (Int × Int)} (h : Rising m) (hm : ∀ x, x ∈ m ↔ x ∈ l) : sortF l = m := rising_ext (rising_sortF l) h fun c => (mem_sortF l c).trans (hm c).symm
theorem sortF_rising {l : List (Int × Int)} (h : Rising l) : sortF l = l := sortF_eq h fun _ => Iff.rfl
theorem putF_length (c : Int × Int) : ∀ l, (putF c l).length ≤ l.length + 1
  | [] => by simp [putF]
  | a :: r => by
    unfold putF
    have := putF_length c r
    split
    · simp only [List.length_cons]; omega
    · split <;> simp only [List.length_cons] <;> omega
theorem foldl_putF_length : ∀ (l o : List (Int × Int)), (l.foldl (fun o c => putF c o) o).length ≤ o.length + l.length
  | [], o => by simp
  | c :: l, o => by
    have h1 := foldl_putF_length l (putF c o)
    have h2 := putF_length c o
    rw [List.foldl_cons, List.length_cons]
    omega
theorem sortF_length (l : List (Int × Int)) : (sortF l).length ≤ l.length := by have := foldl_putF_length l []; simpa [sortF] using this

/-- The list without the ones that stand behind their like. -/
def compF : List (Int × Int) → List (Int × Int)
  | [] => []
  | [a] => [a]
  | a :: b :: r => if a = b then compF (b :: r) else a :: compF (b :: r)
def Sorted (l : List (Int × Int)) : Prop := l.Pairwise fun a b => cellLt b a = false
theorem mem_compF (x : Int × Int) : ∀ l, x ∈ compF l ↔ x ∈ l
  | [] => by simp [compF]
  | [a] => by simp [compF]
  | a :: b :: r => by
    unfold compF
    have ih := mem_compF x (b :: r)
    split
    · next h =>
      subst h
      rw [ih]
      simp
    · rw [List.mem_cons, ih, List.mem_cons (b := a)]
theorem rising_compF : ∀ l, Sorted l → Rising (compF l)
  | [], _ => List.Pairwise.nil
  | [a], _ => by simp [compF, Rising]
  | a :: b :: r, h => by
    have h1 := List.pairwise_cons.1 h
    have ih := rising_compF (b :: r) h1.2
    unfold compF
    split
    · exact ih
    · next hne =>
      refine List.pairwise_cons.2 ⟨fun x hx => ?_, ih⟩
      have hx' := (mem_compF x (b :: r)).1 hx
      have hab : cellLt a b = true := by
        rcases cellLt_total a b with h' | h' | h'
        · exact h'
        · exact absurd h' hne
        · have := h1.1 b (List.mem_cons_self ..)
          rw [h'] at this
          cases this
      rcases List.mem_cons.1 hx' with rfl | hx''
      · exact hab
      · have h2 := (List.pairwise_cons.1 h1.2).1 x hx''
        rcases cellLt_total b x with h' | h' | h'
        · exact cellLt_trans hab h'
        · subst h'; exact hab
        · rw [h'] at h2; cases h2
theorem compF_sortF {l m : List (Int × Int)} (h : Sorted m) (hm : ∀ x, x ∈ m ↔ x ∈ l) : compF m = sortF l :=
  (sortF_eq (rising_compF m h) fun x => (mem_compF x m).trans (hm x)).symm

/-- A coordinate that lies too far. -/
def farF (n : Int) : Bool := decide (n ≤ -1099511627776) || decide (1099511627776 ≤ n)
def farC (c : Int × Int) : Bool := farF c.1 || farF c.2
/-- P1.1: the cells in order, each once, or the error. -/
def tidyF (l : List (Int × Int)) : List (Int × Int) × Int :=
  if 4096 < l.length then ([], 5) else if l.any farC then ([], 3) else (sortF l, 0)
theorem tidyF_length (l : List (Int × Int)) : (tidyF l).1.length ≤ 4096 := by
  unfold tidyF
  split
  · simp
  · split
    · simp
    · have := sortF_length l; simp only; omega
end Go.Proofs.Ytabhpbkkjijfjaa
namespace Go.Proofs.Ytabhpbkkjijfjaa
set_option maxRecDepth 100000
open Go.RowKit

/-- Block g holds the cells xs, and behind them sp. -/
def Held (w : World) (g : Nat) (xs : List (Int × Int)) (sp : List Value) : Prop := w.heap[g]? = some (.cells (xs.flatMap encCell ++ sp).toArray 39 (0, 0))
theorem flat_len (xs : List (Int × Int)) : (xs.flatMap encCell).length = xs.length * 2 := flat_length (k := 2) (fun _ => rfl) xs
theorem flat_nth {xs : List (Int × Int)} {k : Nat} {c : Int × Int} (h : xs[k]? = some c) : (xs.flatMap encCell)[k * 2]? = some (.int .i64 c.1) ∧ (xs.flatMap encCell)[k * 2 + 1]? = some (.int .i64 c.2) :=
  ⟨flat_at (k := 2) (enc := encCell) (by omega) (fun _ => rfl) xs k 0 c h (by omega), flat_at (k := 2) (enc := encCell) (by omega) (fun _ => rfl) xs k 1 c h (by omega)⟩
section
variable {w w' : World} {g k : Nat} {xs : List (Int × Int)} {sp : List Value} {c : Int × Int}
theorem Held.x (h : Held w g xs sp) (hk : xs[k]? = some c) : w.cell? ⟨g, k * 2, none⟩ = some (.int .i64 c.1) := by
  have hl : k < xs.length := (List.getElem?_eq_some_iff.1 hk).1
  rw [Joins.cell_of_block h]
  simp only [List.getElem?_toArray]
  rw [List.getElem?_append_left (by rw [flat_len]; omega)]
  exact (flat_nth hk).1
theorem Held.y (h : Held w g xs sp) (hk : xs[k]? = some c) : w.cell? ⟨g, k * 2 + 1, none⟩ = some (.int .i64 c.2) := by
  have hl : k < xs.length := (List.getElem?_eq_some_iff.1 hk).1
  rw [Joins.cell_of_block h]
  simp only [List.getElem?_toArray]
  rw [List.getElem?_append_left (by rw [flat_len]; omega)]
  exact (flat_nth hk).2
theorem Held.free (h : Held w g xs sp) (j : Nat) : w.frozen? ⟨g, j, none⟩ = false := Joins.unfrozen_of_block h j
theorem Held.lt (h : Held w g xs sp) : g < w.heap.size := lt_of_block h
theorem Held.keep (h : Held w g xs sp) (hb : w'.heap[g]? = w.heap[g]?) : Held w' g xs sp := by unfold Held at *; rw [hb]; exact h
theorem Held.below {B : Nat} (h : Held w g xs sp) (hb : Below B w w') (hg : g < B) : Held w' g xs sp := h.keep (hb.block g hg)
theorem flat_set : ∀ (xs : List (Int × Int)) (sp : List Value) (k : Nat) (c : Int × Int), k < xs.length →
    ((xs.flatMap encCell ++ sp).set (k * 2) (.int .i64 c.1)).set (k * 2 + 1) (.int .i64 c.2) = (xs.set k c).flatMap encCell ++ sp
  | [], _, k, _, h => by simp at h
  | x :: r, sp, 0, c, _ => by simp [encCell]
  | x :: r, sp, k + 1, c, h => by
    have ih := flat_set r sp k c (by simpa using h)
    have e : (k + 1) * 2 = k * 2 + 1 + 1 := by omega
    simp only [List.flatMap_cons, encCell, List.cons_append, List.nil_append, e, List.set_cons_succ]
    rw [ih]
theorem Held.set (h : Held w g xs sp) (hk : k < xs.length) (c : Int × Int) : Held ((w.setCell ⟨g, k * 2, none⟩ (.int .i64 c.1)).setCell ⟨g, k * 2 + 1, none⟩ (.int .i64 c.2)) g (xs.set k c) sp := by
  unfold Held
  rw [Joins.block_setCell (Joins.block_setCell h _) _]
  simp only [List.setIfInBounds_toArray]
  rw [flat_set xs sp k c hk]
theorem Held.row (h : Held w g xs sp) {cap : Nat} (h1 : xs.length ≤ cap) (h2 : cap ≤ maxLen) (h3 : cap * 2 ≤ xs.length * 2 + sp.length) : Row w 39 2 (.slice (some ⟨g, 0, none⟩) xs.length cap) xs.length (xs.flatMap encCell) :=
  ⟨flat_len xs, .inr ⟨g, 0, cap, _, rfl, h, h1, h2, by rw [List.size_toArray, List.length_append, flat_len]; omega, by rw [List.drop_zero, List.take_append_of_le_length (by rw [flat_len]; omega), List.take_of_length_le (by rw [flat_len]; omega)]⟩⟩
end
theorem held_of_own {w : World} {base g cap : Nat} {xs : List (Int × Int)} (h : w.ownsRow base 39 2 (.slice (some ⟨g, 0, none⟩) xs.length cap) xs.length (xs.flatMap encCell)) : ∃ sp, Held w g xs sp ∧ xs.length * 2 + sp.length = cap * 2 ∧ base ≤ g ∧ cap ≤ maxLen := by
  rcases h.2 with ⟨h0, _⟩ | ⟨g', cap', cur, hv, hb, hg, hc, hm, hs, ht⟩
  · cases h0
  · simp only [Value.slice.injEq, Option.some.injEq, Addr.mk.injEq, and_true, true_and] at hv
    obtain ⟨rfl, rfl⟩ := hv
    refine ⟨cur.toList.drop (xs.length * 2), ?_, by simp; omega, hb, hm⟩
    unfold Held
    rw [← ht, List.take_append_drop, hg]
/-- A row of cells: somewhere in an own block, or nil. -/
theorem held_of_row {w : World} {a : Option Addr} {cap : Nat} {xs : List (Int × Int)} (h : Row w 39 2 (.slice a xs.length cap) xs.length (xs.flatMap encCell)) : (a = none ∧ xs = [] ∧ cap = 0) ∨
    ∃ g o cur, a = some ⟨g, o, none⟩ ∧ w.heap[g]? = some (.cells cur 39 (0, 0)) ∧ xs.length ≤ cap ∧ cap ≤ maxLen ∧ o + cap * 2 ≤ cur.size ∧ (cur.toList.drop o).take (xs.length * 2) = xs.flatMap encCell := by
  rcases h.2 with ⟨h0, h1⟩ | ⟨g, o, cap', cur, hv, hr⟩
  · simp only [Value.slice.injEq] at h0
    exact .inl ⟨h0.1, List.eq_nil_of_length_eq_zero h1, h0.2.2⟩
  · simp only [Value.slice.injEq, true_and] at hv
    obtain ⟨rfl, rfl⟩ := hv
    exact .inr ⟨g, o, cur, rfl, hr⟩

theorem own_of_held {w : World} {base g cap : Nat} {xs : List (Int × Int)} {sp : List Value} (h : Held w g xs sp) (hl : xs.length * 2 + sp.length = cap * 2) (hb : base ≤ g) (hm : cap ≤ maxLen) :
    w.ownsRow base 39 2 (.slice (some ⟨g, 0, none⟩) xs.length cap) xs.length (xs.flatMap encCell) :=
  ⟨flat_len xs, .inr ⟨g, cap, _, rfl, hb, h, by omega, hm, by rw [List.size_toArray, List.length_append, flat_len]; omega, by rw [List.take_append_of_le_length (by rw [flat_len]; omega), List.take_of_length_le (by rw [flat_len]; omega)]⟩⟩
theorem Keeps.setRow {F : Nat → Prop} {a w : World} (h : Keeps F a w) {g : Nat} (hp : g < a.heap.size → F g) (x : Array Value) : Keeps F a (w.setRow g x) :=
  ⟨h.os, h.tape, h.output, by simpa using h.size, fun i hi hn => (setRow_other w g i _ (fun e => by subst e; exact hn (hp hi))).trans (h.block i hi hn)⟩
/-- Behind a 'copy(l[k+1:], l[k:])' in a row whose last element is new. -/
theorem Held.shifted {w : World} {g k : Nat} {xs : List (Int × Int)} {c : Int × Int} {sp : List Value} (h : Held w g (xs ++ [c]) sp) (hk : k < xs.length) :
    Held (w.setRow g (((xs ++ [c]).flatMap encCell ++ sp).toArray.toList.take ((k + 1) * 2) ++ (xs.drop k).flatMap encCell ++ ((xs ++ [c]).flatMap encCell ++ sp).toArray.toList.drop ((k + 1) * 2 + ((xs.drop k).flatMap encCell).length)).toArray) g (xs.take (k + 1) ++ xs.drop k) sp := by
  unfold Held
  rw [setRow_heap _ _ _ _ _ _ h]
  have e0 : xs ++ [c] = xs.take (k + 1) ++ (xs.drop (k + 1) ++ [c]) := by rw [← List.append_assoc, List.take_append_drop]
  have e1 : ((xs ++ [c]).flatMap encCell ++ sp).take ((k + 1) * 2) = (xs.take (k + 1)).flatMap encCell := by
    have hl : ((xs.take (k + 1)).flatMap encCell).length = (k + 1) * 2 := by rw [flat_len, List.length_take]; congr 1; omega
    rw [e0, List.flatMap_append, List.append_assoc, ← hl, List.take_left]
  have e2 : ((xs ++ [c]).flatMap encCell ++ sp).drop ((k + 1) * 2 + ((xs.drop k).flatMap encCell).length) = sp := by
    have : (k + 1) * 2 + ((xs.drop k).flatMap encCell).length = ((xs ++ [c]).flatMap encCell).length := by
      rw [flat_len, flat_len, List.length_drop, List.length_append, List.length_singleton]; omega
    rw [this, List.drop_left]
  simp only [e1, e2]
  rw [List.flatMap_append]
/-- 'clear(s)' of some elements in a row of one's own. -/
theorem run_clear_row {P : Program} (w : World) (t e ty : TypeId) (z : Value) (ht : P.underlying t = some (.slice e)) (hv : ∀ w, (zeroValue e).run P w = .ok z w) (h1 : ∀ v ∈ z.cells.toList, v.oneCell' = true) (g o n c : Nat) (cur : Array Value) (t' : TypeId)
    (hg : w.heap[g]? = some (.cells cur t' (0, 0))) (hfit : o + n * z.cells.size ≤ cur.size) (hn : 0 < n) :
    (Builtin.clear_ #[t] ty #[.slice (some ⟨g, o, none⟩) n c]).run P w = .ok (.tuple #[]) (w.setRow g (cur.toList.take o ++ (Builtin.zeroCells z.cells n).toList ++ cur.toList.drop (o + n * z.cells.size)).toArray) := by
  have hl : (Builtin.zeroCells z.cells n).toList.length = n * z.cells.size := by simp [Builtin.zeroCells]
  have hst := run_storeCells_at P g o t' (Builtin.zeroCells z.cells n).toList 0 cur w hg (by rw [hl]; simpa using hfit) (by
    intro v hv'
    simp only [Builtin.zeroCells, Array.toList_map, List.mem_map] at hv'
    obtain ⟨i, hi, rfl⟩ := hv'
    have hi' : i < n * z.cells.size := by simpa using hi
    have hpos : 0 < z.cells.size := by
      rcases Nat.eq_zero_or_pos z.cells.size with h0 | h0
      · rw [h0] at hi'; simp at hi'
      · exact h0
    have hm : i % z.cells.size < z.cells.size := Nat.mod_lt _ hpos
    refine h1 _ ?_
    rw [getElem!_pos z.cells _ hm]
    exact Array.getElem_mem_toList hm)
  simp only [Nat.add_zero, hl] at hst
  obtain ⟨m, rfl⟩ : ∃ m, n = m + 1 := ⟨n - 1, by omega⟩
  simp [Builtin.clear_, run_underlying ht, hv, hst]
/-- 'copy(d, s)' into a row of one's own, at elements of whatever size. -/
theorem run_copy_rowK {P : Program} (w : World) (dT sT ty elem : TypeId) (size g o dLen dCap : Nat) (a : Addr) (sLen sCap : Nat) (cur : Array Value) (t : TypeId) (cs : List Value)
    (hu : P.underlying dT = some (.slice elem)) (hs : (P.info? elem).map (·.size) = some size)
    (hg : w.heap[g]? = some (.cells cur t (0, 0))) (hn : cs.length = Nat.min sLen dLen * size)
    (hsrc : ∀ j v, cs[j]? = some v → w.cell? (a.add j) = some v) (hfit : o + cs.length ≤ cur.size) (h1 : ∀ v ∈ cs, v.oneCell' = true) :
    (Builtin.copy_ #[dT, sT] ty #[.slice (some ⟨g, o, none⟩) dLen dCap, .slice (some a) sLen sCap]).run P w =
      .ok (goInt (Nat.min sLen dLen)) (w.setRow g (cur.toList.take o ++ cs ++ cur.toList.drop (o + cs.length)).toArray) := by
  have hl := run_loadCells_list (P := P) w a cs hsrc
  have hst := run_storeCells_at P g o t cs 0 cur w hg (by simpa using hfit) h1
  simp only [Nat.add_zero] at hst
  cases hq : P.info? elem with
  | none => simp [hq] at hs
  | some i =>
    rw [hq] at hs
    simp only [Option.map_some, Option.some.injEq] at hs
    rw [hn] at hl
    simp [Builtin.copy_, run_underlying hu, Builtin.lenOf, Builtin.firstCells, sizeOf, typeInfo, hq, hs, hl, hst]
theorem wpList_clear_eq {P : Program} {w : World} {ops : Array Oper} {rest : List Oper} {o : Oper} {a : Act} {Q : Exit → Act → World → Prop} (hgd : o.guard = none) (s : Operand) (t : TypeId)
    (ho : o.op = .call { callee := .builtin .clear, args := #[s], argTypes := #[t] }) (v : Value) (hs : a.eval s = v) {v' : Value} {w' : World}
    (hr : (Builtin.clear_ #[t] o.type #[v]).run P w = .ok v' w') (h : wpList P ops Q rest (a.put o.dst v') w') : wpList P ops Q (o :: rest) a w :=
  wpList_plain hgd fun _ hK => by
    unfold Oper.wp execOp
    simp only [ho, resolve, invoke, builtin, Sem.run_bind, Sem.run_pure, Result.andThen_ok, List.map_toArray, List.map_cons, List.map_nil, hs, hr]
    exact hK _ _ h
theorem wpList_copy_eq {P : Program} {w : World} {ops : Array Oper} {rest : List Oper} {o : Oper} {a : Act} {Q : Exit → Act → World → Prop} (hgd : o.guard = none) (d s : Operand) (t t' : TypeId)
    (ho : o.op = .call { callee := .builtin .copy, args := #[d, s], argTypes := #[t, t'] }) (v u : Value) (hd : a.eval d = v) (hs : a.eval s = u) {v' : Value} {w' : World}
    (hr : (Builtin.copy_ #[t, t'] o.type #[v, u]).run P w = .ok v' w') (h : wpList P ops Q rest (a.put o.dst v') w') : wpList P ops Q (o :: rest) a w :=
  wpList_plain hgd fun _ hK => by
    unfold Oper.wp execOp
    simp only [ho, resolve, invoke, builtin, Sem.run_bind, Sem.run_pure, Result.andThen_ok, List.map_toArray, List.map_cons, List.map_nil, hd, hs, hr]
    exact hK _ _ h
/-- Behind a 'clear' of the cells from the k-th on. -/
theorem Held.cleared {w : World} {g k : Nat} {xs : List (Int × Int)} {sp zs : List Value} (h : Held w g xs sp) (hk : k ≤ xs.length) (_hz : zs.length = (xs.length - k) * 2) :
    Held (w.setRow g ((xs.flatMap encCell ++ sp).toArray.toList.take (k * 2) ++ zs ++ (xs.flatMap encCell ++ sp).toArray.toList.drop (k * 2 + (xs.length - k) * 2)).toArray) g (xs.take k) (zs ++ sp) := by
  unfold Held
  rw [setRow_heap _ _ _ _ _ _ h]
  have e1 : (xs.flatMap encCell ++ sp).take (k * 2) = (xs.take k).flatMap encCell := by
    rw [List.take_append_of_le_length (by rw [flat_len]; omega)]
    have e : xs.flatMap encCell = (xs.take k).flatMap encCell ++ (xs.drop k).flatMap encCell := by rw [← List.flatMap_append, List.take_append_drop]
    have hl : ((xs.take k).flatMap encCell).length = k * 2 := by rw [flat_len, List.length_take]; congr 1; omega
    rw [e, ← hl, List.take_left]
  have e2 : (xs.flatMap encCell ++ sp).drop (k * 2 + (xs.length - k) * 2) = sp := by
    have : k * 2 + (xs.length - k) * 2 = (xs.flatMap encCell).length := by rw [flat_len]; omega
    rw [this, List.drop_left]
  simp only [e1, e2, List.append_assoc]
end Go.Proofs.Ytabhpbkkjijfjaa
