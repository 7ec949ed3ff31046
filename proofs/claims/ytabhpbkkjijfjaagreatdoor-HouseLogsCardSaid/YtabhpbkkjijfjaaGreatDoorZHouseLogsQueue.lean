/-
  The document's Queue in memory; what NewQueue, Push, Waits and Pop come to.
-/
import Derived.Test.YtabhpbkkjijfjaaGreatDoorZHouseLogsTurns
namespace Go.Proofs.YtabhpbkkjijfjaaGreatDoor
set_option maxRecDepth 100000
open Go.RowKit

def encLine (l : Nat × ByteArray) : List Value := [.int .i64 l.1, .string l.2]
theorem encLine_one (l : List (Nat × ByteArray)) : ∀ u ∈ l.flatMap encLine, u.oneCell' = true := by
  intro u hu
  simp only [List.mem_flatMap, encLine, List.mem_cons, List.not_mem_nil, or_false] at hu
  obtain ⟨_, _, rfl | rfl⟩ := hu <;> rfl
structure QueueAt (b : Nat) (q : QueueSt) (L : Nat) (v : Value) (w : World) (F : Nat → Prop) : Prop where
  own : w.heap[b]? = some (.cells #[.int .i64 q.n, .int .i64 q.next, v] 69 (0, 0))
  row : Row w 71 2 v q.wait.length (q.wait.flatMap encLine)
  fb : F b
  fr : ∀ (g : Nat), v.ownBlock = some g → F g
  lt : ∀ i, F i → i < w.heap.size
  len : q.wait.length ≤ L
  small : q.n ≤ 64
  next : q.next < q.n
  all : ∀ l ∈ q.wait, l.1 < q.n
def IsQueue (b : Nat) (q : QueueSt) (L : Nat) (w : World) (F : Nat → Prop) : Prop := ∃ v, QueueAt b q L v w F
theorem IsQueue.keep {b : Nat} {q : QueueSt} {L : Nat} {w w' : World} {F G : Nat → Prop} (h : IsQueue b q L w F) (k : Keeps G w w') (hd : ∀ i, F i → ¬ G i) : IsQueue b q L w' F := by
  obtain ⟨v, h⟩ := h
  have blk : ∀ i, F i → w'.heap[i]? = w.heap[i]? := fun i hi => k.block i (h.lt i hi) (hd i hi)
  exact ⟨v, (blk b h.fb).trans h.own, h.row.keep fun g hg => blk g (h.fr g hg), h.fb, h.fr, fun i hi => Nat.lt_of_lt_of_le (h.lt i hi) k.size, h.len, h.small, h.next, h.all⟩
theorem IsQueue.drew {b : Nat} {q : QueueSt} {L : Nat} {w : World} {F : Nat → Prop} (h : IsQueue b q L w F) : IsQueue b q L w.drew F := h.keep (Keeps.refl (fun _ => False) w).drew (fun _ _ h => h)
theorem IsQueue.more {b : Nat} {q : QueueSt} {L L' : Nat} {w : World} {F : Nat → Prop} (h : IsQueue b q L w F) (hL : L ≤ L') : IsQueue b q L' w F := by
  obtain ⟨v, h⟩ := h
  exact ⟨v, h.own, h.row, h.fb, h.fr, h.lt, Nat.le_trans h.len hL, h.small, h.next, h.all⟩

theorem filter_take_succ {α : Type} (p : α → Bool) (l : List α) (k : Nat) (x : α) (h : l[k]? = some x) : ((l.take (k + 1)).filter p).length = ((l.take k).filter p).length + (if p x then 1 else 0) := by
  have hk := (List.getElem?_eq_some_iff.1 h).1
  rw [List.take_succ_eq_append_getElem hk, List.filter_append, List.length_append]
  have : l[k] = x := (List.getElem?_eq_some_iff.1 h).2
  rw [this]
  cases hp : p x <;> simp [hp]

set_option maxRecDepth 100000 in
set_option maxHeartbeats 1000000 in
theorem qwaits_any (b : Nat) (q : QueueSt) (L : Nat) (F : Nat → Prop) (t : Int) (w : World) (h : IsQueue b q L w F) (hL : L ≤ 1000000) :
    Calls Tryz.prog 13 #[.pointer (some ⟨b, 0, none⟩), .int .i64 t] w fun e w' => e = .returned (.int .i64 (queueWaits q t)) ∧ Below w.heap.size w w' := by
  obtain ⟨v, h⟩ := h
  have hlen := h.len
  obtain ⟨a, c, rfl, hqc, hcm, _⟩ := h.row.form
  have c2 : w.cell? ⟨b, 2, none⟩ = some (.slice a q.wait.length c) := by rw [Joins.cell_of_block h.own]; rfl
  have hbl := lt_of_block h.own
  obtain ⟨n, hn⟩ : ∃ n, n = q.wait.length := ⟨_, rfl⟩
  have hrow := h.row
  rw [← hn] at c2 hqc hlen hrow
  have HN := Lib.hid hn
  have HR := Lib.hid hrow
  clear hn hrow
  go_enter Tryz.func13, Tryz.ntmps13
  go_wp2_with fail
  go_loopw [5, 13] (fun m i wr => ∃ k : Nat, k ≤ n ∧ i = .int .i64 k ∧ m = .int .i64 (((q.wait.take k).filter fun l => (l.1 : Int) == t).length : Nat) ∧ Below w.heap.size w wr) (fun _ i _ => n - (intOf i).toNat)
  case atStart => exact ⟨0, Nat.zero_le _, rfl, rfl, Below.refl _ _⟩
  case round =>
    obtain ⟨k, hk, rfl, rfl, hB⟩ := hrel
    have hct : ((q.wait.take k).filter fun l => (l.1 : Int) == t).length ≤ n := Nat.le_trans (List.length_filter_le _ _) (by rw [List.length_take]; omega)
    by_cases hlt : k < n
    · obtain ⟨g, o, rfl, hcell, hfz, hgl⟩ := HR.out.cells (by omega)
      have hkl : k < q.wait.length := by have := HN.out; omega
      obtain ⟨l, hl⟩ : ∃ l, q.wait[k]? = some l := ⟨q.wait[k], List.getElem?_eq_getElem hkl⟩
      have e1 := flat_at (k := 2) (enc := encLine) (by omega) (fun _ => rfl) q.wait k 0 l hl (by omega)
      have e2 := flat_at (k := 2) (enc := encLine) (by omega) (fun _ => rfl) q.wait k 1 l hl (by omega)
      have d1 : wr.cell? ⟨g, o + k * 2, none⟩ = some (.int .i64 l.1) := by
        rw [hB.cell hgl]; have := (hcell (k * 2 + 0) (by omega)).trans e1; rw [Nat.add_zero] at this; exact this
      have d2 : wr.cell? ⟨g, o + k * 2 + 1, none⟩ = some (.string l.2) := by
        rw [hB.cell hgl]; have := (hcell (k * 2 + 1) (by omega)).trans e2; rw [← Nat.add_assoc] at this; exact this
      have hst := filter_take_succ (fun l : Nat × ByteArray => (l.1 : Int) == t) q.wait k l hl
      have hz := hB.size
      obtain ⟨m0, hm0⟩ : ∃ m0, m0 = ((q.wait.take k).filter fun l => (l.1 : Int) == t).length := ⟨_, rfl⟩
      rw [← hm0] at hst hct ⊢
      have HST := Lib.hid hst
      clear hst hm0 e1 e2 hl
      by_cases hx : (l.1 : Int) = t
      · go_wp2_with fail
        refine ⟨⟨k + 1, by omega, by go_num, ?_, hB.alloc hB.size _⟩, by simp [intOf]; omega⟩
        have e : ((l.1 : Int) == t) = true := by simpa using hx
        rw [HST.out, if_pos e]
        go_num
      · go_wp2_with fail
        refine ⟨⟨k + 1, by omega, by go_num, ?_, hB.alloc hB.size _⟩, by simp [intOf]; omega⟩
        have e : ((l.1 : Int) == t) = false := by simpa using hx
        rw [HST.out, e]
        rfl
    · obtain rfl : k = n := by omega
      go_wp2_with fail
      go_ret
      refine ⟨?_, hB⟩
      rw [queueWaits, List.take_of_length_le (by have := HN.out; omega)]
      rfl
end Go.Proofs.YtabhpbkkjijfjaaGreatDoor
