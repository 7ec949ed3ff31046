/-
  What the document's Next holds, round by round.
-/
import Derived.Test.YtffgpjkkgndkiaaNextHold
namespace Go.Proofs.Ytffgpjkkgndkiaa
set_option maxRecDepth 100000
open Go.RowKit

theorem nowM_mem {u : Value} {U : List (Int × Int)} {d : Int × Int} (h : d ∈ U) : nowM u U = nowM u (U ++ [d]) := by
  funext c
  unfold nowM
  by_cases hc : c ∈ U
  · rw [if_pos hc, if_pos (List.mem_append_left _ hc)]
  · rw [if_neg hc, if_neg (fun h' => by
      rcases List.mem_append.1 h' with h' | h'
      · exact hc h'
      · rw [List.mem_singleton] at h'; subst h'; exact hc h)]
theorem nowM_bool (U : List (Int × Int)) (d : Int × Int) : (nowM (.bool true) U d).getD (.bool false) = .bool (decide (d ∈ U)) := by
  unfold nowM; by_cases h : d ∈ U <;> simp [h]
theorem nineC_next {V : List (Int × Int)} {c : Int × Int} {i : Nat} (h : i < 9) : V ++ (nineC c).take (i + 1) = (V ++ (nineC c).take i) ++ [ninth c i] := by
  rw [List.take_add_one, nineC_get h]
  simp
theorem nineC_all (s : List (Int × Int)) {k : Nat} {c : Int × Int} (h : s[k]? = some c) : (s.take k).flatMap nineC ++ (nineC c).take 9 = (s.take (k + 1)).flatMap nineC := by
  have ht : s.take (k + 1) = s.take k ++ [c] := by rw [List.take_add_one, h]; rfl
  rw [ht, List.flatMap_append, List.take_of_length_le (l := nineC c) (by rw [nineC_len]; exact Nat.le_refl _)]
  simp
theorem lenC_take (s : List (Int × Int)) (c : Int × Int) (i : Nat) (h : s.length ≤ 4096) : (s.flatMap nineC ++ (nineC c).take i).length ≤ 40000 := by
  have h1 := nineCs_len s
  have h2 := nineC_len c
  rw [List.length_append, List.length_take, h1, h2]
  omega
/-- The cells that live, of those that were looked at. -/
structure Lived (lv : Int × Int → Bool) (U L : List (Int × Int)) : Prop where
  nodup : L.Nodup
  mem : ∀ d, d ∈ L ↔ d ∈ U ∧ lv d = true
section
variable {lv : Int × Int → Bool} {U L : List (Int × Int)} {d : Int × Int}
theorem Lived.nil (lv : Int × Int → Bool) : Lived lv [] [] := ⟨List.nodup_nil, fun d => by simp⟩
theorem Lived.seen (h : Lived lv U L) (hd : d ∈ U) : Lived lv (U ++ [d]) L := ⟨h.nodup, fun c => by
  rw [h.mem, List.mem_append, List.mem_singleton]
  constructor
  · rintro ⟨h1, h2⟩; exact ⟨.inl h1, h2⟩
  · rintro ⟨h1 | rfl, h2⟩
    · exact ⟨h1, h2⟩
    · exact ⟨hd, h2⟩⟩
theorem Lived.no (h : Lived lv U L) (hl : lv d = false) : Lived lv (U ++ [d]) L := ⟨h.nodup, fun c => by
  rw [h.mem, List.mem_append, List.mem_singleton]
  constructor
  · rintro ⟨h1, h2⟩; exact ⟨.inl h1, h2⟩
  · rintro ⟨h1 | rfl, h2⟩
    · exact ⟨h1, h2⟩
    · rw [hl] at h2; cases h2⟩
theorem Lived.yes (h : Lived lv U L) (hd : d ∉ U) (hl : lv d = true) : Lived lv (U ++ [d]) (L ++ [d]) :=
  ⟨List.nodup_append.2 ⟨h.nodup, by simp, fun x hx y hy e => by
    simp only [List.mem_singleton] at hy
    subst hy; subst e
    exact hd ((h.mem x).1 hx).1⟩, fun c => by
    rw [List.mem_append, List.mem_append, List.mem_singleton, h.mem]
    constructor
    · rintro (⟨h1, h2⟩ | rfl)
      · exact ⟨.inl h1, h2⟩
      · exact ⟨.inr rfl, hl⟩
    · rintro ⟨h1 | rfl, h2⟩
      · exact .inl ⟨h1, h2⟩
      · exact .inr rfl⟩
theorem Lived.len (h : Lived lv U L) : L.length ≤ U.length := nodup_le h.nodup fun a ha => ((h.mem a).1 ha).1
end
/-- How many of the first j cells at d, but d itself, live. -/
def nearJ (s : List (Int × Int)) (d : Int × Int) (j : Nat) : Nat := ((List.range j).filter fun i => decide (i ≠ 4) && decide (ninth d i ∈ s)).length
theorem nearJ_succ (s : List (Int × Int)) (d : Int × Int) (j : Nat) : nearJ s d (j + 1) = nearJ s d j + if (decide (j ≠ 4) && decide (ninth d j ∈ s)) = true then 1 else 0 := by
  unfold nearJ
  rw [List.range_succ, List.filter_append, List.length_append]
  congr 1
  by_cases h : (decide (j ≠ 4) && decide (ninth d j ∈ s)) = true
  · rw [if_pos h, List.filter_cons, if_pos h]; rfl
  · rw [if_neg h, List.filter_cons, if_neg h]; rfl
theorem nearJ_le (s : List (Int × Int)) (d : Int × Int) (j : Nat) : nearJ s d j ≤ j := by
  unfold nearJ
  refine Nat.le_trans (List.length_filter_le _ _) ?_
  simp
theorem nearJ_nine (s : List (Int × Int)) (d : Int × Int) : nearJ s d 9 = nearF s d := by
  have h8 : eightF d = [0, 1, 2, 3, 5, 6, 7, 8].map (ninth d) := by
    obtain ⟨x, y⟩ := d
    simp [eightF, ninth] <;> omega
  have h9 : (List.range 9).filter (fun i => decide (i ≠ 4)) = [0, 1, 2, 3, 5, 6, 7, 8] := by decide
  unfold nearJ nearF
  rw [h8, List.filter_map, List.length_map, ← h9, List.filter_filter]
  congr 1
  refine List.filter_congr fun i _ => ?_
  simp [Bool.and_comm]
end Go.Proofs.Ytffgpjkkgndkiaa
