/-
  The cells of a pattern's body: plain lists.
-/
import Derived.Test.YtffgpjkkgndkiaaHeadMath
import Derived.Test.YtffgpjkkgndkiaaTidies
namespace Go.Proofs.Ytffgpjkkgndkiaa
set_option maxRecDepth 100000
open Go.RowKit

/-- A piece: how often, which letter, what is behind. -/
def stepF : List UInt8 → Option (Nat × UInt8 × List UInt8)
  | [] => none
  | c :: r => if isD c = true then (if okN (c :: r) = true ∧ valN (c :: r) ≠ 0 then (match aftN (c :: r) with
      | [] => none
      | d :: t => if d = 98 ∨ d = 111 ∨ d = 36 then some (valN (c :: r), d, t) else none) else none) else some (1, c, r)
def rowF (X Y n : Nat) : List (Int × Int) := (List.range n).map fun i => (((X + i : Nat) : Int), ((Y : Nat) : Int))
theorem rowF_succ (X Y n : Nat) : rowF X Y (n + 1) = rowF X Y n ++ [(((X + n : Nat) : Int), (Y : Int))] := by simp [rowF, List.range_succ]
theorem rowF_length (X Y n : Nat) : (rowF X Y n).length = n := by simp [rowF]
def scanG (wd ht : Nat) : Nat → List UInt8 → Nat → Nat → List (Int × Int) → List (Int × Int) × Int
  | 0, _, _, _, _ => ([], 2)
  | k + 1, l, X, Y, out => match stepF l with
    | none => ([], 2)
    | some (n, c, r) =>
      if c = 32 ∨ c = 10 ∨ c = 9 ∨ c = 13 then scanG wd ht k r X Y out
      else if c = 33 then (out, 0)
      else if c = 36 then scanG wd ht k r 0 (Y + n) out
      else if c = 98 then scanG wd ht k r (X + n) Y out
      else if c = 111 then (if ht ≤ Y ∨ wd < X + n then ([], 3) else if 4096 < out.length + n then ([], 5) else scanG wd ht k r (X + n) Y (out ++ rowF X Y n))
      else ([], 2)
theorem scan_none {wd ht k X Y : Nat} {l : List UInt8} {out : List (Int × Int)} (h : stepF l = none) : scanG wd ht (k + 1) l X Y out = ([], 2) := by rw [scanG, h]
section
variable {wd ht k X Y n : Nat} {l r : List UInt8} {c : UInt8} {out : List (Int × Int)}
theorem scan_ws (h : stepF l = some (n, c, r)) (hc : c = 32 ∨ c = 10 ∨ c = 9 ∨ c = 13) : scanG wd ht (k + 1) l X Y out = scanG wd ht k r X Y out := by rw [scanG, h]; simp only [if_pos hc]
theorem scan_end (h : stepF l = some (n, 33, r)) : scanG wd ht (k + 1) l X Y out = (out, 0) := by rw [scanG, h]; rfl
theorem scan_line (h : stepF l = some (n, 36, r)) : scanG wd ht (k + 1) l X Y out = scanG wd ht k r 0 (Y + n) out := by rw [scanG, h]; rfl
theorem scan_dead (h : stepF l = some (n, 98, r)) : scanG wd ht (k + 1) l X Y out = scanG wd ht k r (X + n) Y out := by rw [scanG, h]; rfl
theorem scan_live (h : stepF l = some (n, 111, r)) : scanG wd ht (k + 1) l X Y out = if ht ≤ Y ∨ wd < X + n then ([], 3) else if 4096 < out.length + n then ([], 5) else scanG wd ht k r (X + n) Y (out ++ rowF X Y n) := by rw [scanG, h]; rfl
theorem scan_bad (h : stepF l = some (n, c, r)) (hc : ¬ (c = 32 ∨ c = 10 ∨ c = 9 ∨ c = 13)) (h1 : c ≠ 33) (h2 : c ≠ 36) (h3 : c ≠ 98) (h4 : c ≠ 111) : scanG wd ht (k + 1) l X Y out = ([], 2) := by
  rw [scanG, h]
  simp only [if_neg hc, if_neg h1, if_neg h2, if_neg h3, if_neg h4]
end
theorem step_plain {c : UInt8} {r : List UInt8} (h : isD c = false) : stepF (c :: r) = some (1, c, r) := by rw [stepF, h]; rfl
theorem step_digit {c : UInt8} {r : List UInt8} (h : isD c = true) : stepF (c :: r) = if okN (c :: r) = true ∧ valN (c :: r) ≠ 0 then (match aftN (c :: r) with
      | [] => none
      | d :: t => if d = 98 ∨ d = 111 ∨ d = 36 then some (valN (c :: r), d, t) else none) else none := by rw [stepF, if_pos h]
theorem valN_lt (l : List UInt8) (h : digs l ≤ 12) : valN l < 1000000000000 := by
  have h1 := decV_lt (l.take (digs l)) (digs_all l) (digs l) (by rw [List.length_take]; have := digs_le l; omega)
  rw [List.take_take, Nat.min_self] at h1
  exact Nat.lt_of_lt_of_le h1 (by
    have : 10 ^ digs l ≤ 10 ^ 12 := Nat.pow_le_pow_right (by omega) h
    exact this)
def sizeS : Value → Nat
  | .string s => s.size
  | _ => 0
def ScanAs (w : World) (x : List (Int × Int) × Int) (e : Ending) (w' : World) : Prop :=
  ∃ v, e = .returned (.tuple #[v, .int .i64 x.2]) ∧ Below w.heap.size w w' ∧ Tight w.heap.size w' v x.1
theorem ScanAs.no {w w' : World} {x : List (Int × Int) × Int} {er : Int} (h : x = ([], er)) (hb : Below w.heap.size w w') : ScanAs w x (.returned (.tuple #[.slice none 0 0, .int .i64 er])) w' :=
  ⟨.slice none 0 0, by rw [h], hb, by rw [h]; exact Tight.nil _ _⟩
/-- The body's letter, by its number. -/
theorem byte_is {c : UInt8} {y : Nat} (h : c.toNat = y) (d : UInt8) (hd : d.toNat = y) : c = d := UInt8.toNat_inj.1 (by rw [h, hd])
end Go.Proofs.Ytffgpjkkgndkiaa
