/-
  What a line asks, plain: the program's reading and the document's.
-/
import Derived.Test.YtdmamecfmfhlmaaGreatDoorZSpeechWrites23
import Derived.Test.YtdmamecfmfhlmaaGreatDoorZSpeechWritesSignMath
import Derived.Test.YtdmamecfmfhlmaaGreatDoorSpeechNames
import Derived.Test.YtdmamecfmfhlmaaGreatDoorZSpeechWritesStrs
import Derived.Test.YtdmamecfmfhlmaaGreatDoorZSpeechWritesReads
namespace Go.Proofs.YtdmamecfmfhlmaaGreatDoor
set_option maxRecDepth 100000
open Go.RowKit

structure Ask where
  verb : Int
  name : List UInt8
  other : List UInt8
  b : Int
  l : Int
  n : Int
  cells : List (Int × Int)
def Ask.no : Ask := ⟨0, [], [], 0, 0, 0, []⟩
/-- A pair of numbers with a comma between. -/
def cellOk (t : List UInt8) : Bool := match splC 44 t with
  | [x, y] => okS x && okS y
  | _ => false
def cellV (t : List UInt8) : Int × Int := match splC 44 t with
  | [x, y] => (valS x, valS y)
  | _ => (0, 0)
def placeF (t : List UInt8) : Bool := namedF t || keyedF t
def ruleOk (t : List UInt8) : Bool := decide ((readF t).2 = 0)
def verbT : Nat → List UInt8
  | 1 => [110, 101, 119]
  | 2 => [115, 101, 116]
  | 3 => [103, 101, 116]
  | 4 => [115, 116, 101, 112]
  | 5 => [99, 111, 117, 110, 116]
  | 6 => [98, 111, 120]
  | 7 => [100, 114, 111, 112]
  | 8 => [99, 111, 112, 121]
  | 9 => [108, 101, 97, 115, 101]
  | 10 => [99, 108, 101, 97, 110]
  | _ => []
def formT : Nat → List UInt8
  | 1 => [110, 114]
  | 2 => [112, 99]
  | 3 => [112]
  | 4 => [112, 100]
  | 5 => [112]
  | 6 => [112]
  | 7 => [110]
  | 8 => [112, 110]
  | 9 => [110, 100]
  | _ => []
/-- The last verb up to k whose text this is. -/
def verbUp (t : List UInt8) : Nat → Nat
  | 0 => 0
  | k + 1 => if t = verbT (k + 1) then k + 1 else verbUp t k
def verbOf (t : List UInt8) : Nat := verbUp t 10
/-- What is asked behind a verb. -/
def askV (k : Nat) (r : List (List UInt8)) : Option Ask := match k, r with
  | 1, [a, b] => if namedF a = true ∧ ruleOk b = true then some ⟨1, a, [], (readF b).1.1, (readF b).1.2, 0, []⟩ else none
  | 2, a :: q => if placeF a = true ∧ q.all cellOk = true then some ⟨2, a, [], 0, 0, 0, q.map cellV⟩ else none
  | 3, [a] => if placeF a = true then some ⟨3, a, [], 0, 0, 0, []⟩ else none
  | 4, [a, d] => if placeF a = true ∧ okS d = true then some ⟨4, a, [], 0, 0, valS d, []⟩ else none
  | 5, [a] => if placeF a = true then some ⟨5, a, [], 0, 0, 0, []⟩ else none
  | 6, [a] => if placeF a = true then some ⟨6, a, [], 0, 0, 0, []⟩ else none
  | 7, [a] => if namedF a = true then some ⟨7, a, [], 0, 0, 0, []⟩ else none
  | 8, [a, b] => if placeF a = true ∧ namedF b = true then some ⟨8, a, b, 0, 0, 0, []⟩ else none
  | 9, [a, d] => if namedF a = true ∧ okS d = true then some ⟨9, a, [], 0, 0, valS d, []⟩ else none
  | 10, [] => some ⟨10, [], [], 0, 0, 0, []⟩
  | _, _ => none
def askW (k : Nat) (r : List (List UInt8)) : Int × Ask := if k = 0 then (4, Ask.no) else match askV k r with
  | none => (2, Ask.no)
  | some q => (0, q)
/-- The answer to a line: an error, or what it asks. -/
def askF (l : List UInt8) : Int × Ask := if 6000 < l.length then (1, Ask.no) else askW (verbOf ((splC 32 l).headD [])) (splC 32 l).tail
theorem askW_zero (r : List (List UInt8)) : askW 0 r = (4, Ask.no) := rfl
theorem askW_none {k : Nat} {r : List (List UInt8)} (h : askV k r = none) (hk : k ≠ 0) : askW k r = (2, Ask.no) := by
  unfold askW
  rw [if_neg hk, h]
theorem askW_some {k : Nat} {r : List (List UInt8)} {q : Ask} (h : askV k r = some q) (hk : k ≠ 0) : askW k r = (0, q) := by
  unfold askW
  rw [if_neg hk, h]
/-! The program: a word, or nothing and bad. -/
/-- What the program answers, of the reader's end. -/
def endA (bad : Bool) (left : List (List UInt8)) (q : Ask) : Option Ask := if bad = true ∨ left ≠ [] then none else some q
theorem ask_new (r : List (List UInt8)) : askV 1 r = endA ((((false || r.isEmpty) || !namedF (r.headD [])) || r.tail.isEmpty) || decide ((readF (r.tail.headD [])).2 ≠ 0)) r.tail.tail ⟨1, r.headD [], [], (readF (r.tail.headD [])).1.1, (readF (r.tail.headD [])).1.2, 0, []⟩ := by
  rcases r with _ | ⟨a, _ | ⟨b, _ | ⟨c, r⟩⟩⟩
  · rfl
  · simp [askV, endA]
  · simp only [askV, endA, ruleOk]
    by_cases h1 : namedF a = true
    · by_cases h2 : (readF b).2 = 0
      · simp [h1, h2]
      · simp [h1, h2]
    · simp [h1]
  · simp [askV, endA]
theorem ask_p (k : Nat) (hk : k = 3 ∨ k = 5 ∨ k = 6) (r : List (List UInt8)) : askV k r = endA ((false || r.isEmpty) || (!namedF (r.headD []) && !keyedF (r.headD []))) r.tail ⟨k, r.headD [], [], 0, 0, 0, []⟩ := by
  have e : ∀ a, placeF a = (namedF a || keyedF a) := fun _ => rfl
  rcases hk with rfl | rfl | rfl <;> rcases r with _ | ⟨a, _ | ⟨b, r⟩⟩
  all_goals first
    | rfl
    | (simp only [askV, endA, e, List.headD_cons, List.tail_cons, List.isEmpty_cons]
       by_cases h1 : namedF a = true <;> by_cases h2 : keyedF a = true <;> simp [h1, h2])
    | simp [askV, endA]
theorem ask_n (r : List (List UInt8)) : askV 7 r = endA ((false || r.isEmpty) || !namedF (r.headD [])) r.tail ⟨7, r.headD [], [], 0, 0, 0, []⟩ := by
  rcases r with _ | ⟨a, _ | ⟨b, r⟩⟩
  · rfl
  · simp only [askV, endA, List.headD_cons, List.tail_cons, List.isEmpty_cons]
    by_cases h1 : namedF a = true <;> simp [h1]
  · simp [askV, endA]
theorem ask_pd (r : List (List UInt8)) : askV 4 r = endA ((((false || r.isEmpty) || (!namedF (r.headD []) && !keyedF (r.headD []))) || r.tail.isEmpty) || !okS (r.tail.headD [])) r.tail.tail ⟨4, r.headD [], [], 0, 0, if okS (r.tail.headD []) = true then valS (r.tail.headD []) else 0, []⟩ := by
  have e : ∀ a, placeF a = (namedF a || keyedF a) := fun _ => rfl
  rcases r with _ | ⟨a, _ | ⟨b, _ | ⟨c, r⟩⟩⟩
  · rfl
  · simp [askV, endA]
  · simp only [askV, endA, e, List.headD_cons, List.tail_cons, List.isEmpty_cons]
    by_cases h1 : namedF a = true <;> by_cases h2 : keyedF a = true <;> by_cases h3 : okS b = true <;> simp [h1, h2, h3]
  · simp [askV, endA]
theorem ask_nd (r : List (List UInt8)) : askV 9 r = endA ((((false || r.isEmpty) || !namedF (r.headD [])) || r.tail.isEmpty) || !okS (r.tail.headD [])) r.tail.tail ⟨9, r.headD [], [], 0, 0, if okS (r.tail.headD []) = true then valS (r.tail.headD []) else 0, []⟩ := by
  rcases r with _ | ⟨a, _ | ⟨b, _ | ⟨c, r⟩⟩⟩
  · rfl
  · simp [askV, endA]
  · simp only [askV, endA, List.headD_cons, List.tail_cons, List.isEmpty_cons]
    by_cases h1 : namedF a = true <;> by_cases h3 : okS b = true <;> simp [h1, h3]
  · simp [askV, endA]
theorem ask_pn (r : List (List UInt8)) : askV 8 r = endA ((((false || r.isEmpty) || (!namedF (r.headD []) && !keyedF (r.headD []))) || r.tail.isEmpty) || !namedF (r.tail.headD [])) r.tail.tail ⟨8, r.headD [], r.tail.headD [], 0, 0, 0, []⟩ := by
  have e : ∀ a, placeF a = (namedF a || keyedF a) := fun _ => rfl
  rcases r with _ | ⟨a, _ | ⟨b, _ | ⟨c, r⟩⟩⟩
  · rfl
  · simp [askV, endA]
  · simp only [askV, endA, e, List.headD_cons, List.tail_cons, List.isEmpty_cons]
    by_cases h1 : namedF a = true <;> by_cases h2 : keyedF a = true <;> by_cases h3 : namedF b = true <;> simp [h1, h2, h3]
  · simp [askV, endA]
theorem ask_c (r : List (List UInt8)) : askV 10 r = endA false r ⟨10, [], [], 0, 0, 0, []⟩ := by
  rcases r with _ | ⟨a, r⟩
  · rfl
  · simp [askV, endA]
/-- The cells: what the program has read when its reader stands still: bad, or all of them. -/
def readC (r : List (List UInt8)) (bad : Bool) (r' : List (List UInt8)) (bad' : Bool) (zs : List (Int × Int)) : Prop :=
  (bad' = true ∧ (bad = true ∨ r.all cellOk = false)) ∨ (bad = false ∧ bad' = false ∧ r' = [] ∧ r.all cellOk = true ∧ zs = r.map cellV)
theorem ask_set {r r' : List (List UInt8)} {bad' : Bool} {zs : List (Int × Int)} (h : readC r.tail ((false || r.isEmpty) || (!namedF (r.headD []) && !keyedF (r.headD []))) r' bad' zs) : askV 2 r = endA bad' r' ⟨2, r.headD [], [], 0, 0, 0, zs⟩ := by
  have e : ∀ a, placeF a = (namedF a || keyedF a) := fun _ => rfl
  unfold readC at h
  rcases r with _ | ⟨a, r⟩
  · rcases h with ⟨h1, h2⟩ | ⟨h1, -⟩
    · simp [askV, endA, h1]
    · simp at h1
  · simp only [askV, endA, e, List.headD_cons, List.tail_cons, List.isEmpty_cons] at h ⊢
    rcases h with ⟨h1, h2⟩ | ⟨h1, h2, h3, h4, h5⟩
    · rw [if_pos (Or.inl h1 : bad' = true ∨ r' ≠ []), if_neg]
      rintro ⟨g1, g2⟩
      rcases h2 with h2 | h2
      · by_cases k1 : namedF a = true <;> by_cases k2 : keyedF a = true <;> simp [k1, k2] at g1 h2
      · rw [h2] at g2; cases g2
    · rw [if_neg (show ¬ (bad' = true ∨ r' ≠ []) by simp [h2, h3]), if_pos, h5]
      refine ⟨?_, h4⟩
      by_cases k1 : namedF a = true <;> by_cases k2 : keyedF a = true <;> simp [k1, k2] at h1 ⊢
/-- A pair cut at its first comma. -/
theorem okS_comma {l : List UInt8} (h : l.count 44 ≠ 0) : okS l = false := by
  refine Bool.eq_false_iff.2 fun hs => h ?_
  unfold okS okT at hs
  simp only [Bool.and_eq_true] at hs
  have hd := hs.2
  have : ∀ m : List UInt8, m.all digC = true → m.count 44 = 0 := fun m hm => by
    rw [List.count_eq_zero]
    intro hmem
    have := List.all_eq_true.1 hm 44 hmem
    revert this; decide
  cases l with
  | nil => rfl
  | cons c r =>
    unfold bare at hd
    rw [minus_cons] at hd
    by_cases h45 : c.toNat = 45
    · rw [decide_eq_true h45, if_pos rfl] at hd
      have hc : c ≠ 44 := fun e => by rw [e] at h45; revert h45; decide
      rw [List.count_cons_of_ne hc]
      exact this r hd
    · rw [decide_eq_false h45, if_neg (by decide)] at hd
      exact this _ hd
theorem cut_pair (t : List UInt8) : cellOk t = ((cutAns t 44).2.2 && okS (cutAns t 44).1 && okS (cutAns t 44).2.1) ∧ (cellOk t = true → cellV t = (valS (cutAns t 44).1, valS (cutAns t 44).2.1)) := by
  rcases cutL_index 44 t with ⟨h1, h2⟩ | ⟨i, h1, hi, h2⟩
  · have hs := splC_none (index_none h1)
    unfold cellOk cellV cutAns
    rw [hs, h2]
    exact ⟨rfl, fun e => by cases e⟩
  · have hs := splC_first i t h1
    unfold cellOk cellV cutAns
    rw [hs, h2]
    dsimp only
    rw [Bool.true_and]
    have hl := splC_len 44 (t.drop (i + 1))
    by_cases hc : (t.drop (i + 1)).count 44 = 0
    · rw [splC_none hc]
      exact ⟨rfl, fun _ => rfl⟩
    · rw [okS_comma hc, Bool.and_false]
      obtain ⟨a, q, e⟩ := List.exists_cons_of_ne_nil (splC_ne 44 (t.drop (i + 1)))
      rw [e] at hl ⊢
      obtain ⟨b, q, rfl⟩ : ∃ b q', q = b :: q' := by
        cases q with
        | nil => simp at hl; omega
        | cons b q => exact ⟨b, q, rfl⟩
      exact ⟨rfl, fun e => by cases e⟩
/-! The document: field by field of the verb's form. -/
def docStep (r : List (List UInt8)) (i : Nat) (f : UInt8) (q : Ask) : Option Ask := match r[i]? with
  | none => none
  | some t => if f = 110 then (if namedF t = true then some (if i = 0 then { q with name := t } else { q with other := t }) else none)
    else if f = 112 then (if placeF t = true then some { q with name := t } else none)
    else if f = 114 then (if ruleOk t = true then some { q with b := (readF t).1.1, l := (readF t).1.2 } else none)
    else if f = 100 then (if okS t = true then some { q with n := valS t } else none)
    else some q
def docF (r : List (List UInt8)) (q : Ask) (i : Nat) : List UInt8 → Option Ask
  | [] => some q
  | f :: fs => if f = 99 then some q else match docStep r i f q with
    | none => none
    | some q' => docF r q' (i + 1) fs
def docA (k : Nat) (r : List (List UInt8)) : Option Ask := match docF r ⟨k, [], [], 0, 0, 0, []⟩ 0 (formT k) with
  | none => none
  | some q => if k = 2 then (if r.tail.all cellOk = true then some { q with cells := r.tail.map cellV } else none) else if r.length ≠ (formT k).length then none else some q
theorem doc_ask {k : Nat} (h1 : 1 ≤ k) (h10 : k ≤ 10) (r : List (List UInt8)) : docA k r = askV k r := by
  obtain rfl | rfl | rfl | rfl | rfl | rfl | rfl | rfl | rfl | rfl : k = 1 ∨ k = 2 ∨ k = 3 ∨ k = 4 ∨ k = 5 ∨ k = 6 ∨ k = 7 ∨ k = 8 ∨ k = 9 ∨ k = 10 := by omega
  all_goals
    rcases r with _ | ⟨a, _ | ⟨b, _ | ⟨c, r⟩⟩⟩
  all_goals simp [docA, docF, docStep, formT, askV]
  all_goals first
    | (by_cases k1 : namedF a = true <;> by_cases k2 : placeF a = true <;> by_cases k3 : namedF b = true <;> by_cases k4 : ruleOk b = true <;> by_cases k5 : okS b = true <;> simp [k1, k2, k3, k4, k5])
    | (by_cases k1 : namedF a = true <;> by_cases k2 : placeF a = true <;> simp [k1, k2])
theorem askV_few {k : Nat} {r : List (List UInt8)} {q : Ask} (h : askV k r = some q) : q.cells.length ≤ r.length := by
  unfold askV at h
  split at h
  all_goals first
    | (split at h
       · simp only [Option.some.injEq] at h
         subst h
         simp
       · cases h)
    | (simp only [Option.some.injEq] at h
       subst h
       simp)
    | cases h
theorem ask_few (C : List UInt8) : (askF C).2.cells.length ≤ 6001 := by
  unfold askF
  split
  · simp [Ask.no]
  · next h =>
    have h1 := splC_len 32 C
    have h2 : C.count 32 ≤ C.length := List.count_le_length
    unfold askW
    split
    · simp [Ask.no]
    · split
      · simp [Ask.no]
      · next q hq =>
        have := askV_few hq
        rw [List.length_tail] at this
        simp only
        omega
end Go.Proofs.YtdmamecfmfhlmaaGreatDoor
