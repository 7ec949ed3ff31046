/-
  The document's way to merge two lists of cells: each cell of both put where it belongs, if it is to stay. Plain lists.
-/
import Derived.Test.YtffgpjkkgndkiaaMergeMath
namespace Go.Proofs.Ytffgpjkkgndkiaa
set_option maxRecDepth 100000

def gatherStep (keep : Bool → Bool → Bool) (x y : List (Int × Int)) (o : List (Int × Int)) (c : Int × Int) : List (Int × Int) := if keep (decide (c ∈ x)) (decide (c ∈ y)) = true then putF c o else o
def gatherF (keep : Bool → Bool → Bool) (x y zs out : List (Int × Int)) : List (Int × Int) := zs.foldl (gatherStep keep x y) out
theorem gatherF_spec (keep : Bool → Bool → Bool) (x y : List (Int × Int)) : ∀ (zs out : List (Int × Int)), Rising out →
    Rising (gatherF keep x y zs out) ∧ ∀ c, c ∈ gatherF keep x y zs out ↔ c ∈ out ∨ (c ∈ zs ∧ keep (decide (c ∈ x)) (decide (c ∈ y)) = true)
  | [], out, h => ⟨h, fun c => by simp [gatherF]⟩
  | z :: zs, out, h => by
    unfold gatherF
    rw [List.foldl_cons]
    have e : gatherStep keep x y out z = if keep (decide (z ∈ x)) (decide (z ∈ y)) = true then putF z out else out := rfl
    by_cases hk : keep (decide (z ∈ x)) (decide (z ∈ y)) = true
    · rw [e, if_pos hk]
      obtain ⟨h1, h2⟩ := gatherF_spec keep x y zs (putF z out) (rising_putF z out h)
      refine ⟨h1, fun c => ?_⟩
      rw [show zs.foldl (gatherStep keep x y) (putF z out) = gatherF keep x y zs (putF z out) from rfl, h2, mem_putF, List.mem_cons]
      constructor
      · rintro ((rfl | h) | h)
        · exact .inr ⟨.inl rfl, hk⟩
        · exact .inl h
        · exact .inr ⟨.inr h.1, h.2⟩
      · rintro (h | ⟨rfl | h, h'⟩)
        · exact .inl (.inr h)
        · exact .inl (.inl rfl)
        · exact .inr ⟨h, h'⟩
    · rw [e, if_neg hk]
      obtain ⟨h1, h2⟩ := gatherF_spec keep x y zs out h
      refine ⟨h1, fun c => ?_⟩
      rw [show zs.foldl (gatherStep keep x y) out = gatherF keep x y zs out from rfl, h2, List.mem_cons]
      constructor
      · rintro (h | h)
        · exact .inl h
        · exact .inr ⟨.inr h.1, h.2⟩
      · rintro (h | ⟨rfl | h, h'⟩)
        · exact .inl h
        · exact absurd h' hk
        · exact .inr ⟨h, h'⟩
theorem gather_pick (keep keep' : Bool → Bool → Bool) (hk : ∀ a b, a = true ∨ b = true → keep a b = keep' a b) {x y : List (Int × Int)} (hx : Rising x) (hy : Rising y) : gatherF keep x y (x ++ y) [] = pickF keep' x y := by
  obtain ⟨h1, h2⟩ := gatherF_spec keep x y (x ++ y) [] List.Pairwise.nil
  obtain ⟨h3, h4⟩ := pickF_spec keep' x y hx hy
  refine rising_ext h1 h3 fun c => ?_
  rw [h2, h4]
  constructor
  · rintro (h | ⟨h, h'⟩)
    · cases h
    · rw [List.mem_append] at h
      refine ⟨h, ?_⟩
      rw [← hk _ _ (by simpa using h)]; exact h'
  · rintro ⟨h, h'⟩
    refine .inr ⟨List.mem_append.2 h, ?_⟩
    rw [hk _ _ (by simpa using h)]; exact h'
theorem gatherF_length (keep : Bool → Bool → Bool) (x y : List (Int × Int)) : ∀ (zs out : List (Int × Int)), (gatherF keep x y zs out).length ≤ out.length + zs.length
  | [], out => by simp [gatherF]
  | z :: zs, out => by
    have h := gatherF_length keep x y zs (gatherStep keep x y out z)
    have h2 : (gatherStep keep x y out z).length ≤ out.length + 1 := by
      unfold gatherStep
      split
      · exact putF_length z out
      · omega
    have e : gatherF keep x y (z :: zs) out = gatherF keep x y zs (gatherStep keep x y out z) := rfl
    rw [e, List.length_cons]
    omega
end Go.Proofs.Ytffgpjkkgndkiaa
