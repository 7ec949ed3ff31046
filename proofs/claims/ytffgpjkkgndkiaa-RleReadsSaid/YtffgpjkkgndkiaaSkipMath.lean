/-
  Lines ahead of a pattern's head, and where a line ends: plain lists.
-/
import Derived.Test.YtffgpjkkgndkiaaScanMath
namespace Go.Proofs.Ytffgpjkkgndkiaa
set_option maxRecDepth 100000
open Go.RowKit

/-- Behind the lines that begin with '#'. -/
def skipG : Nat → List UInt8 → List UInt8
  | 0, l => l
  | k + 1, l => if preB [35] l = true then skipG k (cutAns l 10).2.1 else l
theorem skipG_no {l : List UInt8} (h : preB [35] l = false) : ∀ k, skipG k l = l
  | 0 => rfl
  | k + 1 => by rw [skipG, if_neg (by rw [h]; simp)]
theorem skipG_yes {l : List UInt8} (k : Nat) (h : preB [35] l = true) : skipG (k + 1) l = skipG k (cutAns l 10).2.1 := by rw [skipG, if_pos h]
theorem pre35 (l : List UInt8) : preB [35] l = true ↔ ∃ r, l = 35 :: r := by
  cases l with
  | nil => simp [preB]
  | cons c r =>
    rw [preB_iff]
    constructor
    · rintro ⟨_, h⟩
      simp at h
      exact ⟨r, by rw [h]⟩
    · rintro ⟨r', h⟩
      rw [h]
      exact ⟨by simp, by simp⟩
theorem cutAns_length (l : List UInt8) (c : UInt8) : (cutAns l c).1.length ≤ l.length ∧ (cutAns l c).2.1.length ≤ l.length := by
  rcases cutL_index c l with ⟨_, h⟩ | ⟨i, _, hi, h⟩
  · rw [cutAns, h]; simp
  · rw [cutAns, h]; simp; omega
theorem cutAns_shorter {l : List UInt8} (h : preB [35] l = true) : (cutAns l 10).2.1.length < l.length := by
  obtain ⟨r, rfl⟩ := (pre35 l).1 h
  rcases cutL_index 10 (35 :: r) with ⟨_, h2⟩ | ⟨i, _, hi, h2⟩
  · rw [cutAns, h2]; simp
  · rw [cutAns, h2]; simp; omega
theorem cutL_at {c : UInt8} : ∀ {l : List UInt8} {i : Nat}, (∀ j, j < i → l[j]? ≠ some c) → l[i]? = some c → cutL c l = some (l.take i, l.drop (i + 1))
  | [], i, _, h => by simp at h
  | b :: r, 0, _, h => by simp at h; simp [cutL, h]
  | b :: r, i + 1, h0, h => by
    have hb : b ≠ c := fun e => h0 0 (by omega) (by simp [e])
    have ih := cutL_at (l := r) (i := i) (fun j hj => by have := h0 (j + 1) (by omega); simpa using this) (by simpa using h)
    simp [cutL, hb, ih]
theorem cutL_none {c : UInt8} : ∀ {l : List UInt8}, (∀ j, j < l.length → l[j]? ≠ some c) → cutL c l = none
  | [], _ => rfl
  | b :: r, h0 => by
    have hb : b ≠ c := fun e => h0 0 (by simp) (by simp [e])
    have ih := cutL_none (l := r) (fun j hj => by have := h0 (j + 1) (by simp; omega); simpa using this)
    simp [cutL, hb, ih]
/-- P3.3, P3.4. -/
def bodyF (l : List UInt8) : (List (Int × Int) × (Int × Int)) × Int := match cutL 10 l with
  | none => (([], (0, 0)), 2)
  | some p => match headF p.1 with
    | none => (([], (0, 0)), 2)
    | some h => if (scanG h.1.1 h.1.2 (p.2.length + 1) p.2 0 0 []).2 = 0 then (((scanG h.1.1 h.1.2 (p.2.length + 1) p.2 0 0 []).1, h.2), 0) else (([], (0, 0)), (scanG h.1.1 h.1.2 (p.2.length + 1) p.2 0 0 []).2)
def decodeF (l : List UInt8) : (List (Int × Int) × (Int × Int)) × Int := if 20000 < l.length then (([], (0, 0)), 1) else bodyF (skipG l.length l)
def Decoded (w : World) (x : (List (Int × Int) × (Int × Int)) × Int) (e : Ending) (w' : World) : Prop :=
  ∃ v, e = .returned (.tuple #[v, .agg #[.int .i64 x.1.2.1, .int .i64 x.1.2.2], .int .i64 x.2]) ∧ Below w.heap.size w w' ∧ Tight w.heap.size w' v x.1.1
theorem Decoded.no {w w' : World} {x : (List (Int × Int) × (Int × Int)) × Int} {er : Int} (h : x = (([], (0, 0)), er)) (hb : Below w.heap.size w w') : Decoded w x (.returned (.tuple #[.slice none 0 0, .agg #[.int .i64 0, .int .i64 0], .int .i64 er])) w' :=
  ⟨.slice none 0 0, by rw [h], hb, by rw [h]; exact Tight.nil _ _⟩
theorem headF_lt {l : List UInt8} {h : (Nat × Nat) × (Int × Int)} (e : headF l = some h) : h.1.1 < 1000000000000 ∧ h.1.2 < 1000000000000 := by
  unfold headF at e
  split at e
  · next hc =>
    obtain ⟨_, h2, _, h4⟩ := hc
    cases hr : headR (aftN ((aftN (l.drop 4)).drop 6)) with
    | none => rw [hr] at e; simp at e
    | some r =>
      rw [hr] at e
      simp only [Option.map_some, Option.some.injEq] at e
      rw [← e]
      exact ⟨valN_lt _ (okN_iff.1 h2).2.1, valN_lt _ (okN_iff.1 h4).2.1⟩
  · cases e
end Go.Proofs.Ytffgpjkkgndkiaa
