/-
  Bytes cut into lines: byte by byte, and piece by piece; that the two agree. Plain lists.
-/
import Derived.Lib.SplitLaws
import Derived.Test.YtabhpbkkjijfjaaGreatDoorZHouseLogs2
namespace Go.Proofs.YtabhpbkkjijfjaaGreatDoor
set_option maxRecDepth 100000
open Go.Lib

/-- A line that has ended; one that is too long is told as a byte 0 alone. -/
def lineF (l : List UInt8) : List UInt8 := if 6000 < l.length then [0] else l
/-- P7.1, byte by byte. -/
def cutR : List UInt8 → List UInt8 → List (List UInt8) × List UInt8
  | [], line => ([], line)
  | c :: r, line => if c = 10 then (lineF line :: (cutR r []).1, (cutR r []).2) else cutR r (if line.length ≤ 6000 then line ++ [c] else line)
/-- Piece by piece: a piece that ends with byte 10 ends the line. -/
def cutP : List (List UInt8) → List UInt8 → List (List UInt8) × List UInt8
  | [], kept => ([], kept)
  | p :: ps, kept => if (kept ++ p).getLast? = some 10 then (lineF (kept ++ p).dropLast :: (cutP ps []).1, (cutP ps []).2) else cutP ps ((kept ++ p).take 6001)
theorem lineF_take (l : List UInt8) : lineF (l.take 6001) = lineF l := by
  unfold lineF
  by_cases h : 6000 < l.length
  · rw [if_pos h, if_pos (by rw [List.length_take]; omega)]
  · rw [if_neg h, if_neg (by rw [List.length_take]; omega), List.take_of_length_le (by omega)]
/-- What has no byte 10 is gathered, no more than 6001 bytes. -/
theorem cutR_gather : ∀ (p r line : List UInt8), 10 ∉ p → line.length ≤ 6001 → cutR (p ++ r) line = cutR r ((line ++ p).take 6001)
  | [], r, line, _, hl => by rw [List.nil_append, List.append_nil, List.take_of_length_le hl]
  | c :: p, r, line, hp, hl => by
    have hc : c ≠ 10 := fun h => hp (by rw [h]; exact List.mem_cons_self ..)
    have hp' : 10 ∉ p := fun h => hp (List.mem_cons_of_mem _ h)
    rw [List.cons_append, cutR, if_neg hc]
    by_cases h : line.length ≤ 6000
    · rw [if_pos h, cutR_gather p r (line ++ [c]) hp' (by simp; omega), List.append_assoc, List.singleton_append]
    · rw [if_neg h, cutR_gather p r line hp' hl]
      congr 1
      have e : line.length = 6001 := by omega
      rw [← e, List.take_left, List.take_left]
theorem cutR_line (p r line : List UInt8) (hp : 10 ∉ p) (hl : line.length ≤ 6001) : cutR (p ++ 10 :: r) line = (lineF (line ++ p) :: (cutR r []).1, (cutR r []).2) := by
  rw [cutR_gather p (10 :: r) line hp hl, cutR, if_pos rfl, lineF_take]
theorem index_one : ∀ (l : List UInt8), (index l [10] = -1 ∧ 10 ∉ l) ∨ ∃ p r, l = p ++ 10 :: r ∧ 10 ∉ p ∧ index l [10] = (p.length : Nat)
  | [] => .inl ⟨by simp [index], by simp⟩
  | c :: l => by
    by_cases hc : c = 10
    · subst hc
      exact .inr ⟨[], l, rfl, by simp, by rw [index]; simp [List.isPrefixOf]⟩
    · have hp : ([10] : List UInt8).isPrefixOf (c :: l) = false := by simp [List.isPrefixOf, Ne.symm hc]
      have hix : index (c :: l) [10] = if index l [10] == -1 then -1 else index l [10] + 1 := by rw [index, hp]; simp
      rcases index_one l with ⟨h1, h2⟩ | ⟨p, r, h1, h2, h3⟩
      · refine .inl ⟨by rw [hix, h1]; rfl, fun h => ?_⟩
        rcases List.mem_cons.1 h with h | h
        · exact hc h.symm
        · exact h2 h
      · refine .inr ⟨c :: p, r, by rw [h1]; rfl, fun h => ?_, ?_⟩
        · rcases List.mem_cons.1 h with h | h
          · exact hc h.symm
          · exact h2 h
        · have : ¬ (index l [10] == -1) = true := by rw [h3]; simp
          rw [hix, if_neg this, h3]
          simp
/-- The pieces of a text behind each byte 10: cut piece by piece they give what the bytes give. -/
theorem cutP_eq : ∀ (k : Nat) (s line : List UInt8), s.count 10 ≤ k → line.length ≤ 6001 → 10 ∉ line → cutP (splitK [10] 1 k s) line = cutR s line
  | 0, s, line, hk, hl, hn => by
    have hs : 10 ∉ s := List.count_eq_zero.1 (by omega)
    have hlast : ¬ (line ++ s).getLast? = some 10 := fun h => by
      have := List.mem_of_getLast? h
      rcases List.mem_append.1 this with h | h
      · exact hn h
      · exact hs h
    have h := cutR_gather s [] line hs hl
    rw [List.append_nil] at h
    rw [h]
    show cutP [s] line = _
    rw [cutP, if_neg hlast]
    rfl
  | k + 1, s, line, hk, hl, hn => by
    rcases index_one s with ⟨h1, h2⟩ | ⟨p, r, h1, h2, h3⟩
    · have hlast : ¬ (line ++ s).getLast? = some 10 := fun h => by
        have := List.mem_of_getLast? h
        rcases List.mem_append.1 this with h | h
        · exact hn h
        · exact h2 h
      have h := cutR_gather s [] line h2 hl
      rw [List.append_nil] at h
      rw [h, splitK, if_pos (by rw [h1]; rfl), cutP, if_neg hlast]
      rfl
    · have hne : ¬ (index s [10] == -1) = true := by rw [h3]; simp
      have e1 : s.take ((index s [10]).toNat + 1) = p ++ [10] := by
        rw [h3, Int.toNat_natCast, h1, show p ++ 10 :: r = (p ++ [10]) ++ r by simp]
        have : p.length + 1 = (p ++ [10]).length := by simp
        rw [this, List.take_left]
      have e2 : s.drop ((index s [10]).toNat + [(10 : UInt8)].length) = r := by
        rw [h3, Int.toNat_natCast, h1, show p ++ 10 :: r = (p ++ [10]) ++ r by simp]
        have : p.length + [(10 : UInt8)].length = (p ++ [10]).length := by simp
        rw [this, List.drop_left]
      have hlast : (line ++ (p ++ [10])).getLast? = some 10 := by rw [← List.append_assoc]; simp
      have hdl : (line ++ (p ++ [10])).dropLast = line ++ p := by rw [← List.append_assoc, List.dropLast_concat]
      have hcnt : r.count 10 ≤ k := by
        rw [h1, List.count_append, List.count_cons_self] at hk
        omega
      rw [splitK, if_neg hne, e1, e2, cutP, if_pos hlast, hdl, cutP_eq k r [] hcnt (by simp) (by simp), h1, cutR_line p r line h2 hl]
end Go.Proofs.YtabhpbkkjijfjaaGreatDoor
