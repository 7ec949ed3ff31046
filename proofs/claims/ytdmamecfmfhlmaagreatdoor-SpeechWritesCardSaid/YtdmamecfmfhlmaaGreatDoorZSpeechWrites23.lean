/-
  A text's pieces between a byte, plain; Rows of texts of one's own; two of them compared.
-/
import Derived.Lib.Split
import Derived.Lib.SplitLaws
import Derived.Lib.Bytealg
import Derived.Test.YtdmamecfmfhlmaaGreatDoorZSpeechWrites10
import Derived.Test.YtdmamecfmfhlmaaGreatDoorFoot
namespace Go.Proofs.YtdmamecfmfhlmaaGreatDoor
set_option maxRecDepth 100000
open Go.RowKit

/-- The pieces of a text between a byte. -/
def splC (c : UInt8) : List UInt8 → List (List UInt8)
  | [] => [[]]
  | b :: r => if b = c then [] :: splC c r else match splC c r with
    | [] => [[b]]
    | p :: q => (b :: p) :: q
theorem splC_ne (c : UInt8) : ∀ l, splC c l ≠ []
  | [] => by simp [splC]
  | b :: r => by
    rw [splC]
    split
    · simp
    · split <;> simp
theorem splC_hit {c : UInt8} (r : List UInt8) : splC c (c :: r) = [] :: splC c r := by rw [splC, if_pos rfl]
theorem splC_miss {c b : UInt8} {r p : List UInt8} {q : List (List UInt8)} (h : b ≠ c) (e : splC c r = p :: q) : splC c (b :: r) = (b :: p) :: q := by
  rw [splC, if_neg h, e]
theorem splC_len (c : UInt8) : ∀ l, (splC c l).length = l.count c + 1
  | [] => by simp [splC]
  | b :: r => by
    by_cases h : b = c
    · subst h
      rw [splC_hit, List.length_cons, splC_len b r, List.count_cons_self]
    · obtain ⟨p, q, e⟩ := List.exists_cons_of_ne_nil (splC_ne c r)
      have hl := splC_len c r
      rw [e, List.length_cons] at hl
      rw [splC_miss h e, List.length_cons, List.count_cons_of_ne h]
      omega
theorem splC_piece (c : UInt8) : ∀ l, ∀ p ∈ splC c l, p.length ≤ l.length
  | [], p, hp => by
    rw [splC, List.mem_singleton] at hp
    rw [hp]; exact Nat.le_refl _
  | b :: r, p, hp => by
    by_cases h : b = c
    · subst h
      rw [splC_hit] at hp
      rcases List.mem_cons.1 hp with rfl | hp
      · exact Nat.zero_le _
      · exact Nat.le_succ_of_le (splC_piece b r p hp)
    · obtain ⟨u, v, e⟩ := List.exists_cons_of_ne_nil (splC_ne c r)
      have hi := splC_piece c r
      rw [splC_miss h e] at hp
      rw [e] at hi
      rcases List.mem_cons.1 hp with rfl | hp
      · have := hi u (by simp)
        simp only [List.length_cons]; omega
      · have := hi p (by simp [hp])
        rw [List.length_cons]; omega
/-- Without the byte: one piece. -/
theorem splC_none {c : UInt8} : ∀ {l : List UInt8}, l.count c = 0 → splC c l = [l]
  | [], _ => rfl
  | b :: r, h => by
    have hb : b ≠ c := fun e => by subst e; rw [List.count_cons_self] at h; omega
    rw [List.count_cons_of_ne hb] at h
    exact splC_miss hb (splC_none h)
/-- Cut at the first such byte. -/
theorem splC_first {c : UInt8} : ∀ (i : Nat) (l : List UInt8), Lib.indexByte l c = i → splC c l = l.take i :: splC c (l.drop (i + 1))
  | i, [], h => by
    have h2 : (-1 : Int) = i := h
    omega
  | i, b :: r, h => by
    by_cases hb : b = c
    · subst hb
      have : i = 0 := by
        have h2 : (0 : Int) = i := by simpa [Lib.indexByte] using h
        omega
      subst this
      rw [splC_hit]; rfl
    · have hbb : (b == c) = false := by simpa using hb
      by_cases hr : Lib.indexByte r c = -1
      · exfalso
        simp [Lib.indexByte, hbb, hr] at h
      · have hz : ((Lib.indexByte r c) == -1) = false := by simpa using hr
        have hj : Lib.indexByte r c + 1 = i := by simpa [Lib.indexByte, hbb, hz] using h
        obtain ⟨j, rfl⟩ : ∃ j, i = j + 1 := by
          cases i with
          | zero =>
            exfalso
            exact hr (by have := Lib.indexByte_ge r c; omega)
          | succ j => exact ⟨j, rfl⟩
        have e2 : Lib.indexByte r c = (j : Int) := by omega
        have e := splC_first j r e2
        rw [splC_miss hb e]
        rfl
theorem index_one : ∀ (l : List UInt8) (c : UInt8), Lib.index l [c] = Lib.indexByte l c
  | [], c => by simp [Lib.index, Lib.indexByte]
  | a :: l, c => by
    rw [Lib.index, Lib.indexByte, index_one l c]
    have : ([c] : List UInt8).isPrefixOf (a :: l) = (a == c) := by
      simp only [List.isPrefixOf, Bool.and_true]
      rw [Bool.eq_iff_iff, beq_iff_eq, beq_iff_eq]
      exact eq_comm
    rw [this]
theorem index_none {c : UInt8} : ∀ {l : List UInt8}, Lib.indexByte l c = -1 → l.count c = 0
  | [], _ => rfl
  | b :: r, h => by
    by_cases hb : b = c
    · subst hb; simp [Lib.indexByte] at h
    · have hbb : (b == c) = false := by simpa using hb
      rw [List.count_cons_of_ne hb]
      by_cases hr : Lib.indexByte r c = -1
      · exact index_none hr
      · exfalso
        have hz : ((Lib.indexByte r c) == -1) = false := by simpa using hr
        have hj : Lib.indexByte r c + 1 = -1 := by simpa [Lib.indexByte, hbb, hz] using h
        have := Lib.indexByte_ge r c
        omega
theorem splitK_all (c : UInt8) : ∀ (k : Nat) (l : List UInt8), l.count c = k → Lib.splitK [c] 0 k l = splC c l
  | 0, l, h => by rw [splC_none h]; rfl
  | k + 1, l, h => by
    rw [Lib.splitK, index_one]
    by_cases hi : Lib.indexByte l c = -1
    · exact absurd (index_none hi) (by omega)
    · have hz : ((Lib.indexByte l c) == -1) = false := by simpa using hi
      rw [hz]
      obtain ⟨i, hi2⟩ : ∃ i : Nat, Lib.indexByte l c = i := ⟨(Lib.indexByte l c).toNat, by have := Lib.indexByte_ge l c; omega⟩
      have hs := splC_first i l hi2
      rw [hi2, hs]
      have hcount : (l.drop (i + 1)).count c = k := by
        have h1 := splC_len c l
        rw [hs, List.length_cons, splC_len] at h1
        omega
      simp only [Int.toNat_natCast, Nat.add_zero, List.length_singleton, Bool.false_eq_true, if_false]
      rw [splitK_all c k _ hcount]
/-- One more byte at the end. -/
theorem splC_snoc_hit (c : UInt8) : ∀ l, splC c (l ++ [c]) = splC c l ++ [[]]
  | [] => by rw [List.nil_append, splC_hit]; rfl
  | b :: r => by
    rw [List.cons_append]
    by_cases hb : b = c
    · subst hb
      rw [splC_hit, splC_hit, splC_snoc_hit b r]; rfl
    · obtain ⟨p, q, e⟩ := List.exists_cons_of_ne_nil (splC_ne c r)
      have h2 := splC_snoc_hit c r
      rw [e] at h2
      rw [splC_miss hb e, splC_miss hb h2]; rfl
theorem splC_snoc_miss {c x : UInt8} (hx : x ≠ c) : ∀ (l : List UInt8), ∃ a p, splC c l = a ++ [p] ∧ splC c (l ++ [x]) = a ++ [p ++ [x]]
  | [] => ⟨[], [], rfl, by rw [List.nil_append]; exact splC_miss hx rfl⟩
  | b :: r => by
    obtain ⟨a, p, e1, e2⟩ := splC_snoc_miss hx r
    rw [List.cons_append]
    by_cases hb : b = c
    · subst hb
      exact ⟨[] :: a, p, by rw [splC_hit, e1]; rfl, by rw [splC_hit, e2]; rfl⟩
    · cases a with
      | nil => exact ⟨[], b :: p, by rw [splC_miss hb e1]; rfl, by rw [splC_miss hb e2]; rfl⟩
      | cons u v => exact ⟨(b :: u) :: v, p, by rw [splC_miss hb e1]; rfl, by rw [splC_miss hb e2]; rfl⟩
end Go.Proofs.YtdmamecfmfhlmaaGreatDoor
namespace Go.Proofs.YtdmamecfmfhlmaaGreatDoor
set_option maxRecDepth 100000
open Go.RowKit

theorem infoStr : (Tryz.prog.info? 9).map (fun i => (i.zero, i.size, i.bytes)) = some (some (.string ⟨#[]⟩), 1, 16) := by kernel_rfl
def encS (ts : List (List UInt8)) : List Value := ts.map fun t => .string (txt t)
theorem encS_append (a b : List (List UInt8)) : encS (a ++ b) = encS a ++ encS b := by simp [encS]
theorem encS_len (a : List (List UInt8)) : (encS a).length = a.length := by simp [encS]
def TextsOf (base : Nat) (w : World) (v : Value) (ts : List (List UInt8)) : Prop := w.ownsRow base 9 1 v ts.length (encS ts)
theorem TextsOf.nil (base : Nat) (w : World) : TextsOf base w (.slice none 0 0) [] := World.ownsRow_nil _ _ _ _
theorem TextsOf.below {base : Nat} {w w' : World} {v : Value} {ts : List (List UInt8)} (h : TextsOf base w v ts) (hb : Below w.heap.size w w') : TextsOf base w' v ts := own_below h hb
theorem TextsOf.form {base : Nat} {w : World} {v : Value} {ts : List (List UInt8)} (h : TextsOf base w v ts) : ∃ a c, v = .slice a ts.length c := own_form h
theorem TextsOf.sl {base : Nat} {w : World} {a : Option Addr} {c : Nat} {ts : List (List UInt8)} (h : TextsOf base w (.slice a ts.length c) ts) (hb : ts.length * 16 ≤ 140737488351232) : Sl w 1 16 a ts.length c (encS ts) := by
  obtain ⟨a', c', e, hs⟩ := sl_of_own h hb
  simp only [Value.slice.injEq, true_and] at e
  obtain ⟨rfl, rfl⟩ := e
  exact hs
end Go.Proofs.YtdmamecfmfhlmaaGreatDoor
