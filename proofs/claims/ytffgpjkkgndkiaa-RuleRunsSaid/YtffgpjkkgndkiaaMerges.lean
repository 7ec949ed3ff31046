/-
  The document's merge: each cell of both lists by a map of how often it stands where.
-/
import Derived.Test.YtffgpjkkgndkiaaPick
import Derived.Test.YtffgpjkkgndkiaaPuts
import Derived.Test.YtffgpjkkgndkiaaTidyRef
import Derived.Test.YtffgpjkkgndkiaaGatherMath
import Derived.Test.YtffgpjkkgndkiaaMapCells
import Derived.Test.YtffgpjkkgndkiaaNextMath
namespace Go.Proofs.Ytffgpjkkgndkiaa
set_option maxRecDepth 100000
open Go.RowKit

theorem zeroInt (u : World) : (zeroValue 3).run Try.prog u = .ok (.int .i64 0) u := by kernel_rfl
theorem make_map (W : World) : (Instr.makeMap 127 none).run Try.prog W = .ok (.map (some W.heap.size)) (W.alloc (.map #[] 0)) := rfl
/-- What the map holds: 1 of the first list, 2 of the second one. -/
def cntM (xs ys : List (Int × Int)) (c : Int × Int) : Int := (if c ∈ xs then 1 else 0) + (if c ∈ ys then 2 else 0)
def holdM (xs ys : List (Int × Int)) (c : Int × Int) : Option Value := if c ∈ xs ∨ c ∈ ys then some (.int .i64 (cntM xs ys c)) else none
theorem tidy_good {zs xs : List (Int × Int)} (h : (xs, 0) = tidyF zs) : ∀ c ∈ xs, GoodCell c := by
  obtain ⟨_, hf, ht⟩ := tidyF_ok (l := zs) (by rw [← h])
  rw [ht] at h
  simp only [Prod.mk.injEq, and_true] at h
  intro c hc
  rw [h, mem_sortF] at hc
  have : ¬ farC c = true := fun h' => by
    have := List.any_eq_true.2 ⟨c, hc, h'⟩
    rw [hf] at this; cases this
  simp [farC, farF] at this
  exact ⟨⟨by omega, by omega⟩, ⟨by omega, by omega⟩⟩
theorem holdM_x {xs : List (Int × Int)} {k : Nat} {c : Int × Int} (hc : xs[k]? = some c) (hn : xs.Nodup) : (holdM (xs.take k) [] c).getD (.int .i64 0) = .int .i64 0 ∧ updM (holdM (xs.take k) []) c (.int .i64 1) = holdM (xs.take (k + 1)) [] := by
  have hno : c ∉ xs.take k := fun h => by
    obtain ⟨i, hi⟩ := List.mem_iff_getElem?.1 h
    rw [List.getElem?_take] at hi
    split at hi
    · next hik =>
      have hlt : i < xs.length := (List.getElem?_eq_some_iff.1 hi).1
      have := (List.getElem?_inj (j := k) hlt hn).1 (by rw [hi, hc])
      omega
    · cases hi
  have ht : xs.take (k + 1) = xs.take k ++ [c] := by rw [List.take_add_one, hc]; rfl
  refine ⟨by simp [holdM, hno], ?_⟩
  funext x
  rw [ht]
  by_cases hx : x = c
  · subst hx
    simp [updM, holdM, cntM]
  · rw [updM_other _ _ hx]
    simp [holdM, cntM, hx]
theorem holdM_y {xs ys : List (Int × Int)} {k : Nat} {c : Int × Int} (hc : ys[k]? = some c) (hn : ys.Nodup) : (holdM xs (ys.take k) c).getD (.int .i64 0) = .int .i64 (if c ∈ xs then 1 else 0) ∧ updM (holdM xs (ys.take k)) c (.int .i64 ((if c ∈ xs then 1 else 0) + 2)) = holdM xs (ys.take (k + 1)) := by
  have hno : c ∉ ys.take k := fun h => by
    obtain ⟨i, hi⟩ := List.mem_iff_getElem?.1 h
    rw [List.getElem?_take] at hi
    split at hi
    · next hik =>
      have hlt : i < ys.length := (List.getElem?_eq_some_iff.1 hi).1
      have := (List.getElem?_inj (j := k) hlt hn).1 (by rw [hi, hc])
      omega
    · cases hi
  have ht : ys.take (k + 1) = ys.take k ++ [c] := by rw [List.take_add_one, hc]; rfl
  refine ⟨?_, ?_⟩
  · by_cases hx : c ∈ xs <;> simp [holdM, cntM, hno, hx]
  · funext x
    rw [ht]
    by_cases hx : x = c
    · subst hx
      simp [updM, holdM, cntM]
    · rw [updM_other _ _ hx]
      simp [holdM, cntM, hx]
theorem Cut.get {w : World} {B n c k : Nat} {a : Option Addr} {X : List (Int × Int)} {x : Int × Int} (h : Cut w B (.slice a n c) X) (hk : X[k]? = some x) :
    ∃ b o, a = some ⟨b, o, none⟩ ∧ w.cell? ⟨b, o + k * 2, none⟩ = some (.int .i64 x.1) ∧ w.cell? ⟨b, o + k * 2 + 1, none⟩ = some (.int .i64 x.2) ∧ b < w.heap.size ∧ b < B := by
  obtain ⟨a', c', e, hs, hb⟩ := h
  simp only [Value.slice.injEq] at e
  obtain ⟨rfl, rfl, rfl⟩ := e
  have hlt : k < X.length := (List.getElem?_eq_some_iff.1 hk).1
  obtain ⟨b, o, rfl, hrow⟩ := hs.row (by omega)
  refine ⟨b, o, rfl, hrow _ _ (flat_nth hk).1, ?_, hs.lt (by omega) (by omega), hb b o rfl⟩
  have := hrow _ _ (flat_nth hk).2
  rw [← Nat.add_assoc] at this
  exact this
theorem hold_none : (fun _ => none : Int × Int → Option Value) = holdM [] [] := by funext x; simp [holdM]
end Go.Proofs.Ytffgpjkkgndkiaa
