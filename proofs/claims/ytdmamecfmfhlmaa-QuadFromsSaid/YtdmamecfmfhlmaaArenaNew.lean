/-
  arena.New: an arena of its own.
-/
import Derived.Test.YtdmamecfmfhlmaaKinds
namespace Go.Proofs.Ytdmamecfmfhlmaa
set_option maxRecDepth 100000
open Go.RowKit

def twoEntries : Array Value := #[.int .i64 0, .int .i64 0, .int .i64 0, .int .i64 0, .int .i64 0, .int .i64 0, .int .i64 0, .int .u64 0, .int .i64 0, .int .i64 0, .int .i64 0, .int .i64 0, .int .i64 0, .int .i64 0, .int .i64 0, .int .u64 0]
theorem make_two (W : World) : (Instr.makeSlice 87 (.int .i64 2) (.int .i64 2)).run Try.prog W = .ok (.slice (some ⟨W.heap.size, 0, none⟩) 2 2) (W.alloc (.cells twoEntries 86)) := by kernel_rfl
theorem make_index (W : World) : (Instr.makeMap 88 none).run Try.prog W = .ok (.map (some W.heap.size)) (W.alloc (.map #[] 0)) := rfl
/-- What a new arena holds ahead of its quotas. -/
noncomputable def arena0 (n : Int) (b : Nat) : Array Value := ((Try.zeroCells91.setIfInBounds 0 (.int .i64 n)).setIfInBounds 1 (.slice (some ⟨b, 0, none⟩) 2 2)).setIfInBounds 2 (.map (some (b + 1)))
theorem arena0_size (n : Int) (b : Nat) : (arena0 n b).size = 197 := by
  rw [arena0, Array.size_setIfInBounds, Array.size_setIfInBounds, Array.size_setIfInBounds]; rfl
set_option maxHeartbeats 2000000 in
theorem arenaNew_any (n : Nat) (w : World) (hn : n ≤ 200000) :
    Calls Try.prog 25 #[.int .i64 n] w fun e w' => ∃ arr : Array Value, e = .returned (.tuple #[.pointer (some ⟨w.heap.size + 2, 0, none⟩), .int .i64 0]) ∧ Below w.heap.size w w' ∧ w'.heap[w.heap.size]? = some (.cells twoEntries 86 (0, 0)) ∧ w'.heap[w.heap.size + 1]? = some (.map #[] 0) ∧ w'.heap[w.heap.size + 2]? = some (.cells arr 91 (0, 0)) ∧ arr.size = 197 ∧ ∀ j, arr[j]? = if 68 ≤ j ∧ j < 132 then some (.int .i64 n) else (arena0 n w.heap.size)[j]? := by
  have h1 : (0 : Int) ≤ (n : Int) := by omega
  have h2 : (n : Int) ≤ 200000 := by omega
  have h3 : decide ((n : Int) < 0) = false := by simp
  have h4 : decide ((200000 : Int) < (n : Int)) = false := by simp; omega
  have hmk := make_two
  have hmm := make_index
  have HZ : Aside ((arena0 n w.heap.size).size = 197) := arena0_size n w.heap.size
  go_enter Try.func25, Try.ntmps25
  go_wp2_with fail
  rw [show ((Try.zeroCells91.setIfInBounds 0 (Value.int .i64 n)).setIfInBounds 1 (.slice (some ⟨w.heap.size, 0, none⟩) 2 2)).setIfInBounds 2 (.map (some (w.heap.size + 1))) = arena0 n w.heap.size from rfl]
  obtain ⟨Z, hZ⟩ : ∃ Z, Z = arena0 n w.heap.size := ⟨_, rfl⟩
  rw [← hZ] at HZ ⊢
  have HZ2 := Lib.hid hZ
  clear hZ
  go_loopw [17] (fun i wr => ∃ (k : Nat) (arr : Array Value), i = .int .i64 k ∧ k ≤ 64 ∧ arr.size = 197 ∧ Aside (∀ j, arr[j]? = if 68 ≤ j ∧ j < 68 + k then some (Value.int .i64 n) else Z[j]?) ∧ Below w.heap.size w wr ∧ w.heap.size + 2 < wr.heap.size ∧ wr.heap[w.heap.size]? = some (.cells twoEntries 86 (0, 0)) ∧ wr.heap[w.heap.size + 1]? = some (.map #[] 0) ∧ wr.heap[w.heap.size + 1 + 1]? = some (.cells arr 91 (0, 0))) (fun i _ => 64 - (intOf i).toNat)
  case atStart =>
    refine ⟨0, Z, rfl, Nat.zero_le _, HZ.out, ?_, (((Below.refl _ _).alloc (Nat.le_refl _) _).alloc (by simp) _).alloc (by simp; omega) _, by simp, ?_, ?_, blk_last _ _ (by simp)⟩
    · show ∀ j, _
      intro j
      rw [if_neg (by omega)]
    · exact blk_alloc (blk_alloc (blk_last _ _ rfl) _) _
    · exact blk_alloc (blk_last _ _ (by simp)) _
  case round =>
    obtain ⟨k, arr, rfl, hk, hsz, HA, hB, hws, hb0, hb1, hb2⟩ := hrel
    have hu := Joins.unfrozen_of_block hb2 (68 + k)
    by_cases hlt : k < 64
    · have w1 : (k : Int) < 64 := by omega
      obtain ⟨x, hx⟩ : ∃ x, arr[68 + k]? = some x := ⟨arr[68 + k]'(by omega), by simp⟩
      have hc : wr.cell? ⟨w.heap.size + 1 + 1, 68 + k, none⟩ = some x := by rw [Joins.cell_of_block hb2, hx]
      clear hx
      go_wp2_with fail
      refine ⟨⟨k + 1, arr.setIfInBounds (68 + k) (.int .i64 n), by go_num, by omega, by rw [Array.size_setIfInBounds, hsz], ?_, hB.setCell (by simp; omega) _, by simpa using hws, blk_set hb0 (by simp; omega) _, blk_set hb1 (by simp) _, Joins.block_setCell hb2 _⟩, by simp [intOf]; omega⟩
      show ∀ j, _
      intro j
      rw [Array.getElem?_setIfInBounds]
      have h := HA.out j
      by_cases hj : 68 + k = j
      · rw [if_pos hj, if_pos (by omega), if_pos (by omega)]
      · rw [if_neg hj, h]
        by_cases h2 : 68 ≤ j ∧ j < 68 + k
        · rw [if_pos h2, if_pos (by omega)]
        · rw [if_neg h2, if_neg (by omega)]
    · obtain rfl : k = 64 := by omega
      have HF := Lib.hid HA.out
      clear hk hlt
      go_wp2_with fail
      refine bodyPost_ret (v := .tuple #[.pointer (some ⟨w.heap.size + 1 + 1, 0, none⟩), .int .i64 0]) (by simp [results, Try.results25, go_sem]) rfl ⟨arr, rfl, hB, hb0, hb1, hb2, hsz, fun j => by rw [HF.out, HZ2.out]⟩
end Go.Proofs.Ytdmamecfmfhlmaa
