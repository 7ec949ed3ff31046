/-
  The document's NewQueue and Push.
-/
import Derived.Test.YtabhpbkkjijfjaaGreatDoorZHouseLogsQueue
namespace Go.Proofs.YtabhpbkkjijfjaaGreatDoor
set_option maxRecDepth 100000
open Go.RowKit

theorem infoLine : (Tryz.prog.info? 71).map (fun i => (i.zero, i.size, i.bytes)) = some (some (.agg #[.int .i64 0, .string ⟨#[]⟩]), 2, 24) := by kernel_rfl
def NewQueue (n : Int) (w : World) (e : Ending) (w' : World) : Prop :=
  if n < 1 ∨ 64 < n then e = .returned (.tuple #[.pointer none, .int .i64 3]) ∧ w = w'
  else ∃ b F, e = .returned (.tuple #[.pointer (some ⟨b, 0, none⟩), .int .i64 0]) ∧ IsQueue b ⟨n.toNat, 0, []⟩ 0 w' F ∧ (∀ i, F i → w.heap.size ≤ i) ∧ Below w.heap.size w w'
set_option maxRecDepth 100000 in
theorem newQueue_any (n : Int) (w : World) : Calls Tryz.prog 5 #[.int .i64 n] w (NewQueue n w) := by
  rcases (show n < 1 ∨ (1 ≤ n ∧ 64 < n) ∨ (1 ≤ n ∧ n ≤ 64) by omega) with h | ⟨h1, h⟩ | ⟨h1, h⟩
  · go_enter Tryz.func5, Tryz.ntmps5
    go_wp2_with fail
    go_ret2
    rw [NewQueue, if_pos (.inl h)]
    exact ⟨rfl, rfl⟩
  · go_enter Tryz.func5, Tryz.ntmps5
    go_wp2_with fail
    go_ret2
    rw [NewQueue, if_pos (.inr h)]
    exact ⟨rfl, rfl⟩
  · obtain ⟨k, rfl⟩ := Int.eq_ofNat_of_zero_le (show 0 ≤ n by omega)
    go_enter Tryz.func5, Tryz.ntmps5
    go_wp2_with fail
    go_ret2
    rw [NewQueue, if_neg (by omega), Int.toNat_natCast]
    refine ⟨w.heap.size, fun i => i = w.heap.size, rfl, ⟨.slice none 0 0, blk_last w _ rfl, Row.nil _ _ _, rfl, (fun g hg => by cases hg), fun i hi => ?_, Nat.le_refl _, ?_, ?_, (fun l hl => by cases hl)⟩, fun i hi => ?_, (Below.refl _ _).alloc (Nat.le_refl _) _⟩
    · show i < _; rw [show i = w.heap.size from hi]; simp
    · show k ≤ 64; omega
    · show 0 < k; omega
    · show _ ≤ i; rw [show i = w.heap.size from hi]; exact Nat.le_refl _

theorem queue_pushed {b : Nat} {q : QueueSt} {L : Nat} {v v' : Value} {w w0 w1 : World} {F : Nat → Prop} {k : Nat} {x : ByteArray} (h : QueueAt b q L v w F) (hk : k < q.n) (hbel : Below w.heap.size w w0)
    (hrow : Row w1 71 2 v' (q.wait.length + 1) (q.wait.flatMap encLine ++ [.int .i64 k, .string x])) (hg : w0.grownBy w1 v.ownBlock) (hat : ∀ g, v'.ownBlock = some g → v.ownBlock = some g ∨ g = w0.heap.size) :
    Mut w F (IsQueue b { q with wait := q.wait ++ [(k, x)] } (L + 1)) (.int .i64 0) (.returned (.int .i64 0)) (w1.setCell ⟨b, 2, none⟩ v') := by
  have hbl := lt_of_block h.own
  have hz0 := hbel.size
  have hz1 := hg.size
  have hbne : some b ≠ v.ownBlock := fun e => h.row.ne_type h.own (by decide) e.symm
  have hb1 : w1.heap[b]? = some (.cells #[.int .i64 q.n, .int .i64 q.next, v] 69 (0, 0)) := by
    rw [hg.block b (by omega) hbne, hbel.block b hbl]; exact h.own
  refine ⟨rfl, fun i => F i ∨ v'.ownBlock = some i, ⟨v', ?_, ?_, .inl h.fb, fun g hg' => .inr hg', fun i hi => ?_, ?_, h.small, h.next, fun l hl => ?_⟩, fun i hi => ?_, ?_⟩
  · rw [Joins.block_setCell hb1]; rfl
  · have e : (q.wait ++ [(k, x)]).flatMap encLine = q.wait.flatMap encLine ++ [.int .i64 k, .string x] := by simp [encLine]
    rw [List.length_append, e]
    exact hrow.keep fun g hg' => Below.heap_setCell _ _ _ _ (fun e => by subst e; exact hrow.ne_type hb1 (by decide) hg')
  · have e : (w1.setCell ⟨b, 2, none⟩ v').heap.size = w1.heap.size := by simp [World.setCell]
    rw [e]
    rcases hi with hi | hi
    · have := h.lt i hi; omega
    · exact hrow.lt i hi
  · show (q.wait ++ [(k, x)]).length ≤ L + 1
    have := h.len
    simp; exact this
  · rcases List.mem_append.1 hl with hl | hl
    · exact h.all l hl
    · simp at hl; subst hl; exact hk
  · rcases hi with hi | hi
    · exact .inl hi
    · rcases hat i hi with h' | h'
      · exact .inl (h.fr i h')
      · exact .inr (by omega)
  · exact (((Keeps.refl F w).below hbel).grown hg (fun g hg' _ => h.fr g hg')).setCell (fun _ => h.fb) _

set_option maxRecDepth 100000 in
set_option maxHeartbeats 1000000 in
theorem qpush_any (b : Nat) (q : QueueSt) (L : Nat) (F : Nat → Prop) (t : Int) (x : ByteArray) (w : World) (h : IsQueue b q L w F) (hL : L ≤ 1000000) :
    Calls Tryz.prog 7 #[.pointer (some ⟨b, 0, none⟩), .int .i64 t, .string x] w (Mut w F (IsQueue b (queuePush q t x).2 (L + 1)) (.int .i64 (queuePush q t x).1)) := by
  have hIT := Lib.hid h
  obtain ⟨v, h⟩ := h
  have c0 : w.cell? ⟨b, 0, none⟩ = some (.int .i64 q.n) := by rw [Joins.cell_of_block h.own]; rfl
  have hsm := h.small
  obtain ⟨n, hn⟩ : ∃ n, n = q.n := ⟨_, rfl⟩
  rw [← hn] at c0 hsm
  have HN := Lib.hid hn
  clear hn
  rcases (show t < 0 ∨ (0 ≤ t ∧ (n : Int) ≤ t) ∨ (0 ≤ t ∧ t < (n : Int)) by omega) with ht | ⟨h0, ht⟩ | ⟨h0, ht⟩
  · have e : queuePush q t x = (3, q) := by rw [queuePush, if_pos (.inl ht)]
    rw [e]
    go_enter Tryz.func7, Tryz.ntmps7
    go_wp2_with fail
    go_ret
    exact Mut.same (hIT.out.more (Nat.le_succ _))
  · have e : queuePush q t x = (3, q) := by rw [queuePush, if_pos (.inr (by have := HN.out; omega))]
    rw [e]
    go_enter Tryz.func7, Tryz.ntmps7
    go_wp2_with fail
    go_ret
    exact Mut.same (hIT.out.more (Nat.le_succ _))
  · obtain ⟨m, hm⟩ : ∃ m, m = queueWaits q t := ⟨_, rfl⟩
    have hW := fun w hh => qwaits_any b q L F t w hh hL
    rw [← hm] at hW
    have HW := Lib.hid hW
    have HM := Lib.hid hm
    clear hW hm
    obtain ⟨i0, hi, hz0, hz1, hz2⟩ := info_parts infoLine
    go_enter Tryz.func7, Tryz.ntmps7
    go_wp2_with fail
    refine (HW.out _ hIT.out).mono ?_
    rintro e w0 ⟨rfl, hb0⟩
    by_cases h8 : 8 ≤ m
    · have e : queuePush q t x = (5, q) := by rw [queuePush, if_neg (by have := HN.out; omega), if_pos (by rw [← HM.out]; exact h8)]
      rw [e]
      have HE := Lib.hid e
      clear e
      go_wp2_with fail
      go_ret
      rw [HE.out]
      exact ⟨rfl, F, (hIT.out.more (Nat.le_succ _)).keep (Keeps.of_below (F := fun _ => False) hb0) (fun _ _ h => h), fun i hi => .inl hi, Keeps.of_below hb0⟩
    · obtain ⟨k, rfl⟩ := Int.eq_ofNat_of_zero_le h0
      have e : queuePush q (k : Int) x = (0, { q with wait := q.wait ++ [(k, x)] }) := by rw [queuePush, if_neg (by have := HN.out; omega), if_neg (by rw [← HM.out]; exact h8), Int.toNat_natCast]
      have HE := Lib.hid e
      clear e
      obtain ⟨a, c, hvf, hqc, hcm, _⟩ := h.row.form
      have hbl := lt_of_block h.own
      have c2 : w0.cell? ⟨b, 2, none⟩ = some (.slice a q.wait.length c) := by rw [hb0.cell hbl, Joins.cell_of_block h.own, ← hvf]; rfl
      have f2 : w0.frozen? ⟨b, 2, none⟩ = false := (hb0.frozen hbl).trans (Joins.unfrozen_of_block h.own 2)
      have hqn := h.row
      have hlen := h.len
      obtain ⟨p, hp⟩ : ∃ p, p = q.wait.length := ⟨_, rfl⟩
      rw [← hp] at c2 hqn hlen hvf
      have hr0 : Row (w0.alloc (.cells #[.int .i64 k, .string x] 71)) 71 2 v p (q.wait.flatMap encLine) := hqn.keep fun g hg => (Below.heap_alloc w0 _ g (Nat.lt_of_lt_of_le (hqn.lt g hg) hb0.size)).trans (hb0.block g (hqn.lt g hg))
      have hbne : some b ≠ v.ownBlock := fun e => hqn.ne_type h.own (by decide) e.symm
      subst hvf
      have HR := Lib.hid hr0
      have HP := Lib.hid hp
      have HB := Lib.hid hbne
      have hz := hb0.size
      clear hr0 hp hbne hqn
      go_wp2_with ((at_builtin; refine wpList_append_row _ rfl (.tmp 25) (.tmp 29) 67 rfl 71 i0 _ 2 24 Tryz.underlying67 hi hz0 hz1 hz2 rfl (by omega) (.slice a p c) p (q.wait.flatMap encLine) rfl HR.out ⟨w0.heap.size, 0, none⟩ 1 1 [.int .i64 k, .string x] rfl rfl (news_alloc w0 _ _ rfl) (by simp [Value.oneCell']) (by omega) (by unfold maxLen; omega) (by omega) _ rfl ?_; intro g off cap w1 hrow hg hat; have d2 : w1.cell? ⟨b, 2, none⟩ = some (.slice a p c) := (hg.cell_far (a := ⟨b, 2, none⟩) (by simp; omega) HB.out).trans ((World.cell?_of_block (Below.heap_alloc w0 _ b (by omega))).trans c2); have d3 : w1.frozen? ⟨b, 2, none⟩ = false := (hg.frozen_far (a := ⟨b, 2, none⟩) (by simp; omega) HB.out).trans ((World.frozen?_of_block (Below.heap_alloc w0 _ b (by omega))).trans f2)))
      go_ret
      rw [HE.out]
      have hp := HP.out
      refine queue_pushed (w0 := w0.alloc (.cells #[.int .i64 k, .string x] 71)) h (by have := HN.out; omega) (hb0.alloc hz _) (by rw [← hp]; exact hrow) hg (fun g' hg' => ?_)
      simp only [Value.ownBlock, Option.some.injEq] at hg'
      subst hg'
      exact hat
end Go.Proofs.YtabhpbkkjijfjaaGreatDoor
