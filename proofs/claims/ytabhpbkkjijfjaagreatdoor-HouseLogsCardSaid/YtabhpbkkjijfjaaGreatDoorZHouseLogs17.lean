/-
  arena.New: an arena of its own; A new arena: its plain form, and its memory.
-/
import Derived.Test.YtabhpbkkjijfjaaGreatDoorKinds
import Derived.Test.YtabhpbkkjijfjaaGreatDoorZHouseLogsArMem
namespace Go.Proofs.YtabhpbkkjijfjaaGreatDoor
set_option maxRecDepth 100000
open Go.RowKit

def twoEntries : Array Value := #[.int .i64 0, .int .i64 0, .int .i64 0, .int .i64 0, .int .i64 0, .int .i64 0, .int .i64 0, .int .u64 0, .int .i64 0, .int .i64 0, .int .i64 0, .int .i64 0, .int .i64 0, .int .i64 0, .int .i64 0, .int .u64 0]
theorem make_two (W : World) : (Instr.makeSlice 80 (.int .i64 2) (.int .i64 2)).run Tryz.prog W = .ok (.slice (some ⟨W.heap.size, 0, none⟩) 2 2) (W.alloc (.cells twoEntries 211)) := by kernel_rfl
theorem make_index (W : World) : (Instr.makeMap 81 none).run Tryz.prog W = .ok (.map (some W.heap.size)) (W.alloc (.map #[] 0)) := rfl
/-- What a new arena holds ahead of its quotas. -/
noncomputable def arena0 (n : Int) (b : Nat) : Array Value := ((Tryz.zeroCells86.setIfInBounds 0 (.int .i64 n)).setIfInBounds 1 (.slice (some ⟨b, 0, none⟩) 2 2)).setIfInBounds 2 (.map (some (b + 1)))
theorem arena0_size (n : Int) (b : Nat) : (arena0 n b).size = 197 := by
  rw [arena0, Array.size_setIfInBounds, Array.size_setIfInBounds, Array.size_setIfInBounds]; rfl
set_option maxHeartbeats 2000000 in
theorem arenaNew_any (n : Nat) (w : World) (hn : n ≤ 200000) :
    Calls Tryz.prog 16 #[.int .i64 n] w fun e w' => ∃ arr : Array Value, e = .returned (.tuple #[.pointer (some ⟨w.heap.size + 2, 0, none⟩), .int .i64 0]) ∧ Below w.heap.size w w' ∧ w'.heap[w.heap.size]? = some (.cells twoEntries 211 (0, 0)) ∧ w'.heap[w.heap.size + 1]? = some (.map #[] 0) ∧ w'.heap[w.heap.size + 2]? = some (.cells arr 86 (0, 0)) ∧ arr.size = 197 ∧ ∀ j, arr[j]? = if 68 ≤ j ∧ j < 132 then some (.int .i64 n) else (arena0 n w.heap.size)[j]? := by
  have h1 : (0 : Int) ≤ (n : Int) := by omega
  have h2 : (n : Int) ≤ 200000 := by omega
  have h3 : decide ((n : Int) < 0) = false := by simp
  have h4 : decide ((200000 : Int) < (n : Int)) = false := by simp; omega
  have hmk := make_two
  have hmm := make_index
  have HZ : Aside ((arena0 n w.heap.size).size = 197) := arena0_size n w.heap.size
  go_enter Tryz.func16, Tryz.ntmps16
  go_wp2_with fail
  rw [show ((Tryz.zeroCells86.setIfInBounds 0 (Value.int .i64 n)).setIfInBounds 1 (.slice (some ⟨w.heap.size, 0, none⟩) 2 2)).setIfInBounds 2 (.map (some (w.heap.size + 1))) = arena0 n w.heap.size from rfl]
  obtain ⟨Z, hZ⟩ : ∃ Z, Z = arena0 n w.heap.size := ⟨_, rfl⟩
  rw [← hZ] at HZ ⊢
  have HZ2 := Lib.hid hZ
  clear hZ
  go_loopw [17] (fun i wr => ∃ (k : Nat) (arr : Array Value), i = .int .i64 k ∧ k ≤ 64 ∧ arr.size = 197 ∧ Aside (∀ j, arr[j]? = if 68 ≤ j ∧ j < 68 + k then some (Value.int .i64 n) else Z[j]?) ∧ Below w.heap.size w wr ∧ w.heap.size + 2 < wr.heap.size ∧ wr.heap[w.heap.size]? = some (.cells twoEntries 211 (0, 0)) ∧ wr.heap[w.heap.size + 1]? = some (.map #[] 0) ∧ wr.heap[w.heap.size + 1 + 1]? = some (.cells arr 86 (0, 0))) (fun i _ => 64 - (intOf i).toNat)
  case atStart =>
    refine ⟨0, Z, rfl, Nat.zero_le _, HZ.out, ?_, (((Below.refl _ _).alloc (Nat.le_refl _) _).alloc (by simp) _).alloc (by simp; omega) _, by simp, ?_, ?_, blk_last _ _ (by simp)⟩
    · show ∀ j, _
      intro j
      rw [if_neg (by omega)]
    · exact blk_alloc (blk_alloc (blk_last _ _ rfl) _) _
    · exact blk_alloc (blk_last _ _ (by simp)) _
  case round =>
    obtain ⟨k, arr, rfl, hk, hsz, HA, hB, hws, hb0, hb1, hb2⟩ := hrel
    have hu := Joins.unfrozen_of_block hb2 (68 + k)
    by_cases hlt : k < 64
    · have w1 : (k : Int) < 64 := by omega
      obtain ⟨x, hx⟩ : ∃ x, arr[68 + k]? = some x := ⟨arr[68 + k]'(by omega), by simp⟩
      have hc : wr.cell? ⟨w.heap.size + 1 + 1, 68 + k, none⟩ = some x := by rw [Joins.cell_of_block hb2, hx]
      clear hx
      go_wp2_with fail
      refine ⟨⟨k + 1, arr.setIfInBounds (68 + k) (.int .i64 n), by go_num, by omega, by rw [Array.size_setIfInBounds, hsz], ?_, hB.setCell (by simp; omega) _, by simpa using hws, blk_set hb0 (by simp; omega) _, blk_set hb1 (by simp) _, Joins.block_setCell hb2 _⟩, by simp [intOf]; omega⟩
      show ∀ j, _
      intro j
      rw [Array.getElem?_setIfInBounds]
      have h := HA.out j
      by_cases hj : 68 + k = j
      · rw [if_pos hj, if_pos (by omega), if_pos (by omega)]
      · rw [if_neg hj, h]
        by_cases h2 : 68 ≤ j ∧ j < 68 + k
        · rw [if_pos h2, if_pos (by omega)]
        · rw [if_neg h2, if_neg (by omega)]
    · obtain rfl : k = 64 := by omega
      have HF := Lib.hid HA.out
      clear hk hlt
      go_wp2_with fail
      refine bodyPost_ret (v := .tuple #[.pointer (some ⟨w.heap.size + 1 + 1, 0, none⟩), .int .i64 0]) (by simp [results, Tryz.results16, go_sem]) rfl ⟨arr, rfl, hB, hb0, hb1, hb2, hsz, fun j => by rw [HF.out, HZ2.out]⟩
end Go.Proofs.YtabhpbkkjijfjaaGreatDoor
namespace Go.Proofs.YtabhpbkkjijfjaaGreatDoor
set_option maxRecDepth 100000
open Go.RowKit

def newS (n : Nat) : ArS := ⟨n, [none, none], List.replicate 64 (n : Int), List.replicate 64 []⟩
theorem newS_at (n i : Nat) : atL (newS n).L i = none := by
  match i with
  | 0 => rfl
  | 1 => rfl
  | i + 2 => exact atL_out (by show 2 ≤ i + 2; omega)
theorem newS_ok {n : Nat} (hn : n ≤ 200000) : ArOk (newS n) :=
  { room := hn, two := Nat.le_refl _, nil0 := rfl, nil1 := rfl, long := by show 2 ≤ n + 2; omega, live := Nat.zero_le _
    uniq := fun i j x y hx => by rw [newS_at] at hx; cases hx
    mask := fun i x hx => by rw [newS_at] at hx; cases hx
    quota := by simp [newS]
    quotaR := fun q hq => by
      have := List.eq_of_mem_replicate hq
      omega
    added := by simp [newS]
    few := fun t l hl => by
      have := List.eq_of_mem_replicate (List.mem_of_getElem? hl)
      rw [this]; exact Nat.zero_le _ }
theorem newS_live (n : Nat) : liveL (newS n).L = 0 := rfl
theorem newS_quo (n : Nat) {t : Nat} (ht : t < 64) : (newS n).quo t = n := by
  unfold ArS.quo newS
  simp only
  rw [List.getD_eq_getElem?_getD, List.getElem?_replicate, if_pos ht]; rfl
theorem newS_add (n t : Nat) : (newS n).add t = [] := by
  unfold ArS.add newS
  simp only
  rw [List.getD_eq_getElem?_getD, List.getElem?_replicate]
  split <;> rfl
theorem newS_count (n t : Nat) : countL (newS n).L t = 0 := rfl
theorem arena0_at (n : Int) (b j : Nat) : (arena0 n b)[j]? = if j = 0 then some (.int .i64 n) else if j = 1 then some (.slice (some ⟨b, 0, none⟩) 2 2) else if j = 2 then some (.map (some (b + 1))) else Tryz.zeroCells86[j]? := by
  have hz : Tryz.zeroCells86.size = 197 := by kernel_rfl
  unfold arena0
  rw [Array.getElem?_setIfInBounds, Array.getElem?_setIfInBounds, Array.getElem?_setIfInBounds]
  simp only [Array.size_setIfInBounds, hz]
  by_cases h0 : j = 0
  · subst h0; rfl
  · by_cases h1 : j = 1
    · subst h1; rfl
    · by_cases h2 : j = 2
      · subst h2; rfl
      · rw [if_neg (by omega), if_neg (by omega), if_neg (by omega), if_neg h0, if_neg h1, if_neg h2]
theorem zeroA_eq : Tryz.zeroCells86.toList = [.int .i64 0, .slice none 0 0, .map none, .slice none 0 0] ++ (List.replicate 128 (.int .i64 0) ++ (List.replicate 64 (.slice none 0 0) ++ [.int .i64 0])) := by kernel_rfl
theorem zeroA_slice {j : Nat} (hj : j = 3 ∨ 132 ≤ j ∧ j < 196) : Tryz.zeroCells86[j]? = some (.slice none 0 0) := by
  rw [← Array.getElem?_toList, zeroA_eq]
  rcases hj with rfl | ⟨h1, h2⟩
  · rfl
  · rw [List.getElem?_append_right (by simp; omega), List.getElem?_append_right (by simp; omega), List.getElem?_append_left (by simp; omega), List.getElem?_replicate, if_pos (by simp; omega)]
theorem zeroA_int {j : Nat} (hj : (4 ≤ j ∧ j < 132) ∨ j = 196) : Tryz.zeroCells86[j]? = some (.int .i64 0) := by
  rw [← Array.getElem?_toList, zeroA_eq]
  rcases hj with ⟨h1, h2⟩ | rfl
  · rw [List.getElem?_append_right (by simp; omega), List.getElem?_append_left (by simp; omega), List.getElem?_replicate, if_pos (by simp; omega)]
  · rfl
theorem new_isAr {n : Nat} (hn : n ≤ 200000) {w : World} {b : Nat} {arr : Array Value} (h0 : w.heap[b]? = some (.cells twoEntries 211 (0, 0))) (h1 : w.heap[b + 1]? = some (.map #[] 0)) (h2 : w.heap[b + 2]? = some (.cells arr 86 (0, 0))) (hs : arr.size = 197)
    (ha : ∀ j, arr[j]? = if 68 ≤ j ∧ j < 132 then some (.int .i64 n) else (arena0 n b)[j]?) : IsAr (b + 2) (newS n) w (fun i => b ≤ i ∧ i < b + 3) := by
  have hvs : ∀ (t : Nat) (v : Value), (List.replicate 64 (Value.slice none 0 0))[t]? = some v → v = .slice none 0 0 := fun t v hv => List.eq_of_mem_replicate (List.mem_of_getElem? hv)
  refine ⟨arr, .slice (some ⟨b, 0, none⟩) 2 2, .slice none 0 0, b + 1, 0, [], fun _ => none, List.replicate 64 (.slice none 0 0), ?_⟩
  exact {
    ok := newS_ok hn
    good := fun i x hx => by rw [newS_at] at hx; cases hx
    own := h2
    size := hs
    c0 := by rw [ha, if_neg (by omega), arena0_at, if_pos rfl]; rfl
    c1 := by rw [ha, if_neg (by omega), arena0_at, if_neg (by omega), if_pos rfl]
    c2 := by rw [ha, if_neg (by omega), arena0_at, if_neg (by omega), if_neg (by omega), if_pos rfl]
    c3 := by rw [ha, if_neg (by omega), arena0_at, if_neg (by omega), if_neg (by omega), if_neg (by omega), zeroA_slice (by omega)]
    c4 := fun t ht => by rw [ha, if_neg (by omega), arena0_at, if_neg (by omega), if_neg (by omega), if_neg (by omega), zeroA_int (by omega), newS_count]; rfl
    c5 := fun t ht => by rw [ha, if_pos (by omega), newS_quo n ht]
    c6 := fun t ht => by rw [ha, if_neg (by omega), arena0_at, if_neg (by omega), if_neg (by omega), if_neg (by omega), zeroA_slice (by omega), List.getElem?_replicate, if_pos ht]
    c7 := by rw [ha, if_neg (by omega), arena0_at, if_neg (by omega), if_neg (by omega), if_neg (by omega), zeroA_int (by omega), newS_live]; rfl
    list := ⟨rfl, .inr ⟨b, 0, 2, twoEntries, rfl, h0, by show 2 ≤ 2; omega, by simp [maxLen], by simp [twoEntries], rfl⟩⟩
    map := ⟨#[], 0, h1, by simp, by simp [MapKept.Stamped], fun e he => by simp at he, fun a v hv => by cases hv⟩
    keys := fun k i => by
      constructor
      · intro h; cases h
      · rintro ⟨x, hx, _⟩; rw [newS_at] at hx; cases hx
    free := Row.nil _ _ _
    heap := fun j x y h0 h1 => by simp at h1
    nodup := List.nodup_nil
    frees := fun i => by
      constructor
      · intro h; cases h
      · rintro ⟨a1, a2, _⟩
        have : i < 2 := a2
        omega
    len := by simp
    rows := fun t v hv => by
      rw [hvs t v hv, newS_add]; exact Row.nil _ _ _
    fb := ⟨by omega, by omega⟩
    fm := ⟨by omega, by omega⟩
    f1 := fun q hq => by
      have : b = q := by simpa [Value.ownBlock] using hq
      omega
    f3 := fun q hq => by cases hq
    fv := fun t v q hv hq => by rw [hvs t v hv] at hq; cases hq
    lt := fun i hi => by have := lt_of_block h2; omega
    apart3 := fun t v q hv hq => by rw [hvs t v hv] at hq; cases hq
    apart := fun t s v u q _ hv _ hq => by rw [hvs t v hv] at hq; cases hq }
end Go.Proofs.YtabhpbkkjijfjaaGreatDoor
