/-
  A row of cells of one's own, sorted; what stands twice taken away; copied; clipped.
-/
import Derived.Test.YtdmamecfmfhlmaaZQuadPuts29
namespace Go.Proofs.Ytdmamecfmfhlmaa
set_option maxRecDepth 100000
open Go.RowKit Go.Shelf Go.Sort

instance : Inhabited (Int × Int) := ⟨(0, 0)⟩
theorem flatK_eq (zs : List (Int × Int)) : flatK encCell 2 zs.toArray = (zs.flatMap encCell).toArray := by
  refine ext_get! (by rw [size_flatK, List.size_toArray, List.size_toArray, flat_len]) fun t ht => ?_
  have ht' : t < zs.toArray.size * 2 := by simpa using ht
  have hl : t / 2 < zs.length := by simp at ht'; omega
  rw [get_flatK _ _ _ t ht']
  have hm : t % 2 < 2 := Nat.mod_lt _ (by omega)
  have h1 : zs[t / 2]? = some zs[t / 2] := List.getElem?_eq_getElem hl
  have h2 := flat_at (k := 2) (enc := encCell) (by omega) (fun _ => rfl) zs (t / 2) (t % 2) _ h1 hm
  have e : t / 2 * 2 + t % 2 = t := by omega
  rw [e] at h2
  rw [getElem!_pos zs.toArray _ (by simpa using hl)]
  have hb : t < (zs.flatMap encCell).toArray.size := by rw [List.size_toArray, flat_len]; omega
  rw [getElem!_pos (zs.flatMap encCell).toArray t hb]
  have h3 : t % 2 < (encCell zs[t / 2]).length := hm
  rw [List.getElem?_eq_getElem h3, List.getElem?_eq_getElem (by simpa using hb)] at h2
  simp only [Option.some.injEq] at h2
  simp only [List.getElem_toArray]
  rw [h2]
  exact getElem!_pos (encCell zs[t / 2]) (t % 2) h3
theorem holdsK_of {w : World} {g : Nat} {zs : List (Int × Int)} {sp : List Value} (h : Held w g zs sp) : HoldsK encCell 2 w g 0 zs.toArray := by
  unfold HoldsK
  rw [flatK_eq]
  intro j hj
  have hj' : j < (zs.flatMap encCell).length := by simpa using hj
  rw [Nat.zero_add]
  refine ⟨?_, h.free j⟩
  rw [Joins.cell_of_block h, List.getElem?_toArray, List.getElem?_append_left hj', getElem!_pos (zs.flatMap encCell).toArray j hj]
  simp [List.getElem?_eq_getElem hj']
theorem sortWorldK_held {w : World} {g m : Nat} {zs ms : List (Int × Int)} {sp : List Value} {os : Array Obj} (h : Held w g zs sp) (hl : ms.length = zs.length) : Held (sortWorldK encCell 2 w g 0 m ms.toArray os) g ms sp ∧ Keeps (fun i => i = g) w (sortWorldK encCell 2 w g 0 m ms.toArray os) := by
  have hg := h.lt
  unfold sortWorldK putRowK
  rw [flatK_eq]
  have hb : (putRow id (Sort.ahead w m) g 0 (ms.flatMap encCell).toArray).heap[g]? = some (.cells (putCells id 0 (ms.flatMap encCell).toArray (zs.flatMap encCell ++ sp).toArray) 39 (0, 0)) := by
    have h' : (Sort.ahead w m).heap[g]? = some (.cells (zs.flatMap encCell ++ sp).toArray 39 (0, 0)) := h
    simp only [putRow, mapBlock, Array.getElem?_modify, h', if_true, Option.map_some, onCells]
  have e : putCells id 0 (ms.flatMap encCell).toArray (zs.flatMap encCell ++ sp).toArray = (ms.flatMap encCell ++ sp).toArray := by
    apply Array.ext_getElem?
    intro j
    have hfl : (ms.flatMap encCell).length = (zs.flatMap encCell).length := by rw [flat_len, flat_len, hl]
    simp only [putCells, Array.getElem?_mapIdx, List.getElem?_toArray, Nat.zero_le, true_and, Nat.zero_add, List.size_toArray, Nat.sub_zero, id]
    by_cases hj : j < (ms.flatMap encCell).length
    · rw [List.getElem?_append_left hj, List.getElem?_append_left (by rw [← hfl]; exact hj), List.getElem?_eq_getElem (by rw [← hfl]; exact hj), List.getElem?_eq_getElem hj]
      simp only [Option.map_some, hj, if_true]
      rw [getElem!_pos _ _ (by simpa using hj)]
      simp
    · rw [List.getElem?_append_right (by omega), List.getElem?_append_right (by omega), hfl]
      cases hs : sp[j - (zs.flatMap encCell).length]? with
      | none => simp
      | some v => simp only [Option.map_some]; rw [if_neg (by rw [← hfl]; exact hj)]
  refine ⟨?_, ⟨rfl, rfl, rfl, ?_, fun i hi hn => ?_⟩⟩
  · unfold Held
    rw [← e]
    have hlt := lt_of_block hb
    unfold grow
    simp only [Array.getElem?_append]
    rw [if_pos hlt]
    exact hb
  · unfold grow
    simp [putRow, mapBlock, Sort.ahead]
  · unfold grow
    simp only [Array.getElem?_append]
    rw [if_pos (by simp [putRow, mapBlock, Sort.ahead]; exact hi)]
    simp only [putRow, mapBlock, Array.getElem?_modify]
    rw [if_neg (fun e => hn e.symm)]
    rfl
def leC (x y : Int × Int) : Bool := !(ltOf ordI) y x
/-- The cells in order, those alike too. -/
def sortedC (zs : List (Int × Int)) : List (Int × Int) := zs.mergeSort leC
theorem sortedC_length (zs : List (Int × Int)) : (sortedC zs).length = zs.length := List.length_mergeSort zs
theorem sortedC_mem (zs : List (Int × Int)) (c : Int × Int) : c ∈ sortedC zs ↔ c ∈ zs := List.mem_mergeSort
theorem sortedC_sorted (zs : List (Int × Int)) : Sorted (sortedC zs) := by
  have h := List.pairwise_mergeSort (le := leC) (fun a b c h1 h2 => by
    simp only [leC, ordI_lt, Bool.not_eq_true'] at *
    rw [Bool.eq_false_iff, Ne, cellLt_iff] at *
    omega) (fun a b => by
    simp only [leC, ordI_lt, Bool.or_eq_true, Bool.not_eq_true']
    rw [Bool.eq_false_iff, Bool.eq_false_iff, Ne, Ne, cellLt_iff, cellLt_iff]
    omega) zs
  refine h.imp fun {a b} hab => ?_
  simpa [leC, ordI_lt] using hab
theorem compact_sorted (zs : List (Int × Int)) : compF (sortedC zs) = sortF zs := compF_sortF (sortedC_sorted zs) (sortedC_mem zs)
theorem sort_any (zs : List (Int × Int)) (g cap : Nat) (sp : List Value) (w : World) (h : Held w g zs sp) (hn : zs.length < 4611686018427387904) :
    Calls Try.prog 82 #[.slice (some ⟨g, 0, none⟩) zs.length cap, .func (.func 83) #[] #[]] w fun e w' =>
      e = .returned (.tuple #[]) ∧ Held w' g (sortedC zs) sp ∧ Keeps (fun i => i = g) w w' := by
  have eg : ∀ args w, (callFunc 83 args).run Try.prog w = .ok (.enter 83 args) w := enters_of Try.func83 (by kernel_rfl) rfl
  have hcmp : CmpLays Try.prog 83 #[] encCell 2 ordI g 0 zs.toArray.size w := fun _ _ _ _ x y => order_any x y _
  have hS := AnyQ.slices_SortFunc_total lsf 2 Try.isAgg39 Try.sizeOf39 encCell (fun _ => rfl) (fun x v hv => by simp [encCell] at hv; rcases hv with rfl | rfl <;> rfl) ordI ordI_swo 83 #[] g 0 cap zs.toArray w eg hcmp (holdsK_of h) h.lt (by simpa using hn) ordI_tot
  simp only [List.size_toArray] at hS
  change Calls Try.prog 82 _ _ _ at hS
  refine hS.mono ?_
  rintro e w' ⟨rfl, n, os, rfl⟩
  have := sortWorldK_held (m := n) (os := os) h (sortedC_length zs)
  exact ⟨rfl, this⟩
theorem sort_none (a : Option Addr) (cap : Nat) (w : World) :
    Calls Try.prog 82 #[.slice a 0 cap, .func (.func 83) #[] #[]] w fun e w' => e = .returned (.tuple #[]) ∧ w' = w :=
  AnyF.slices_SortFunc_none (P := Try.prog) { lsf with } a cap (.func (.func 83) #[] #[]) w
end Go.Proofs.Ytdmamecfmfhlmaa
