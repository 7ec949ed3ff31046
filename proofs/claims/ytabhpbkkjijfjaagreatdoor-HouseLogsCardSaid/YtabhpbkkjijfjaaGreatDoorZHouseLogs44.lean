/-
  Rows of noughts and of empty lists; the document's Number; A house of some tenants without room; Deeds of a house whose tenants ask "?" alone, and the document's queue beside it: no program in sight.
-/
import Derived.Test.YtabhpbkkjijfjaaGreatDoorZHouseLogs2
import Derived.Test.YtabhpbkkjijfjaaGreatDoorZHouseLogsBigDigits
import Derived.Test.YtabhpbkkjijfjaaGreatDoorZHouseLogsHouseIs
import Derived.Test.YtabhpbkkjijfjaaGreatDoorZHouseLogs12
namespace Go.Proofs.YtabhpbkkjijfjaaGreatDoor
set_option maxRecDepth 100000
open Go.RowKit

/-- Rows of noughts, of empty lists. -/
def zerosI (n : Nat) : Array Value := (List.replicate n (Value.int .i64 0)).toArray
def nilsS (n : Nat) : Array Value := (List.replicate n (Value.slice none 0 0)).toArray
theorem infoIntM : (Tryz.prog.info? 3).map (fun i => (i.zero, i.size, i.bytes)) = some (some (.int .i64 0), 1, 8) := by kernel_rfl
theorem infoStrsM : (Tryz.prog.info? 34).map (fun i => (i.zero, i.size, i.bytes)) = some (some (.slice none 0 0), 1, 24) := by kernel_rfl
theorem make_ints (n : Nat) (hn : n ≤ 100) (w : World) :
    (Instr.makeSlice 23 (.int .i64 (n : Int)) (.int .i64 (n : Int))).run Tryz.prog w = .ok (.slice (some ⟨w.heap.size, 0, none⟩) n n) (w.alloc (.cells (zerosI n) 3)) := by
  obtain ⟨i0, hi, hz0, hz1, hz2⟩ := info_parts infoIntM
  have h := run_make_rowN (P := Tryz.prog) 23 3 i0 _ Tryz.underlying23 hi hz0 .i64 .i64 n n (Nat.le_refl _) (by rw [hz2]; omega) (by omega) w
  rw [h]
  congr 2
  rw [hz1, Nat.mul_one]
  have e : madeCells (Value.int IntKind.i64 0).cells n = zerosI n := by
    unfold zerosI
    apply Array.toList_inj.1
    show (madeCells #[Value.int IntKind.i64 0] n).toList = _
    rw [toList_madeCells_one]
  rw [e]
theorem make_lists (n : Nat) (hn : n ≤ 100) (w : World) :
    (Instr.makeSlice 33 (.int .i64 (n : Int)) (.int .i64 (n : Int))).run Tryz.prog w = .ok (.slice (some ⟨w.heap.size, 0, none⟩) n n) (w.alloc (.cells (nilsS n) 34)) := by
  obtain ⟨i0, hi, hz0, hz1, hz2⟩ := info_parts infoStrsM
  have h := run_make_rowN (P := Tryz.prog) 33 34 i0 _ Tryz.underlying33 hi hz0 .i64 .i64 n n (Nat.le_refl _) (by rw [hz2]; omega) (by omega) w
  rw [h]
  congr 2
  rw [hz1, Nat.mul_one]
  have e : madeCells (Value.slice none 0 0).cells n = nilsS n := by
    unfold nilsS
    apply Array.toList_inj.1
    show (madeCells #[Value.slice none 0 0] n).toList = _
    rw [toList_madeCells_one]
  rw [e]
set_option maxRecDepth 100000 in
theorem refNumber_any (n : Nat) (w : World) (hn : n < 9223372036854775808) :
    Calls Tryz.prog 12 #[.int .i64 n] w fun e w' => e = .returned (.string (txt (Lib.decDigits n))) ∧ Below w.heap.size w w' := by
  have HD := Lib.hid (decimal_any n w hn)
  go_enter Tryz.func12, Tryz.ntmps12
  go_wp2_with fail
  with_reducible refine HD.out.mono ?_
  rintro e w1 ⟨rfl, hb⟩
  have HB := Lib.hid hb
  go_wp2_with fail
  go_ret
  exact ⟨rfl, HB.out⟩
end Go.Proofs.YtabhpbkkjijfjaaGreatDoor
namespace Go.Proofs.YtabhpbkkjijfjaaGreatDoor
set_option maxRecDepth 100000
open Go.RowKit

theorem sl_zeros {X : World} {g N : Nat} (h : X.heap[g]? = some (.cells (zerosI N) 3 (0, 0))) (hN : N ≤ 100) : Sl X 1 8 (some ⟨g, 0, none⟩) N N ((List.replicate N (0 : Int)).flatMap encInt) := by
  have hr : Row X 3 1 (.slice (some ⟨g, 0, none⟩) N N) N ((List.replicate N (0 : Int)).flatMap encInt) := by
    unfold zerosI at h
    rw [flatMap_encInt, List.map_replicate]
    exact ⟨by simp, .inr ⟨g, 0, N, _, rfl, h, Nat.le_refl _, by unfold maxLen; omega, by simp, by simp⟩⟩
  obtain ⟨a, c, e, hs⟩ := hr.sl (bytes := 8) (by omega)
  cases e
  exact hs
theorem check_zeros {N : Nat} (h1 : 1 ≤ N) (h5 : N ≤ 5) : checkF 1000 (List.replicate N (0 : Int)) = 0 := by
  rcases (show N = 1 ∨ N = 2 ∨ N = 3 ∨ N = 4 ∨ N = 5 by omega) with rfl | rfl | rfl | rfl | rfl <;> decide
theorem house_boot {X : World} {g gd N : Nat} (h1 : 1 ≤ N) (h5 : N ≤ 5) (hg : X.heap[g]? = some (.cells (zerosI N) 3 (0, 0))) (hd : X.heap[gd]? = some (.cells (zerosI N) 3 (0, 0))) :
    Calls Tryz.prog 4 #[.agg #[.int .i64 1000, .slice (some ⟨g, 0, none⟩) N N], .slice (some ⟨gd, 0, none⟩) N N] X fun e w' => ∃ b F, e = .returned (.tuple #[ptrV b, .int .i64 0]) ∧ IsHouse b (newHouse N) w' F ∧ (∀ i, F i → X.heap.size ≤ i) ∧ Below X.heap.size X w' := by
  refine (boot_any 1000 N (List.replicate N 0) (List.replicate N 0) _ _ N N X (by simp) (sl_zeros hg (by omega)) (sl_zeros hd (by omega)) (check_zeros h1 h5) (by simp)).mono ?_
  rintro e w' ⟨b, ab, tb, pbs, hbs, pv, FA, Ft, rfl, hst⟩
  refine ⟨b, _, rfl, ⟨ab, tb, pbs, hbs, pv, _, _, _, _, _, hst.house, fun j => Iff.rfl⟩, fun i hi => ?_, hst.below⟩
  rcases hi with (e | e) | e | ⟨s, e⟩
  · rw [e]; exact hst.nb
  · exact hst.npv i e
  · exact hst.nft i e
  · exact hst.npb i (List.mem_of_getElem? e)
end Go.Proofs.YtabhpbkkjijfjaaGreatDoor
namespace Go.Proofs.YtabhpbkkjijfjaaGreatDoor
set_option maxRecDepth 100000
open Go.RowKit

/-- Lines that have come go into the document's queue, as far as there is room. -/
def shiftQ : List ByteArray → QueueSt → Nat → List ByteArray × QueueSt
  | [], q, _ => ([], q)
  | x :: l, q, t => if (queuePush q t x).1 = 0 then shiftQ l (queuePush q t x).2 t else (x :: l, q)
theorem queuePush_no {q : QueueSt} {t : Int} {x : ByteArray} (h : (queuePush q t x).1 ≠ 0) : (queuePush q t x).2 = q := by
  by_cases h1 : t < 0 ∨ (q.n : Int) ≤ t
  · rw [queuePush, if_pos h1]
  · by_cases h2 : 8 ≤ queueWaits q t
    · rw [queuePush, if_neg h1, if_pos h2]
    · exact absurd (by rw [queuePush, if_neg h1, if_neg h2]) h
theorem queuePush_wait (q : QueueSt) (t : Int) (x : ByteArray) : (queuePush q t x).2.n = q.n ∧ ((queuePush q t x).2.wait = q.wait ∨ ∃ k, (queuePush q t x).2.wait = q.wait ++ [(k, x)]) := by
  by_cases h1 : t < 0 ∨ (q.n : Int) ≤ t
  · rw [queuePush, if_pos h1]; exact ⟨rfl, .inl rfl⟩
  · by_cases h2 : 8 ≤ queueWaits q t
    · rw [queuePush, if_neg h1, if_pos h2]; exact ⟨rfl, .inl rfl⟩
    · rw [queuePush, if_neg h1, if_neg h2]; exact ⟨rfl, .inr ⟨_, rfl⟩⟩
theorem sim_shift : ∀ (l : List ByteArray) (s : TurnSt) (q : QueueSt) (t : Nat), TurnSim s q → (shiftF l s t).1 = (shiftQ l q t).1 ∧ TurnSim (shiftF l s t).2 (shiftQ l q t).2
  | [], _, _, _, h => ⟨rfl, h⟩
  | x :: l, s, q, t, h => by
    obtain ⟨h1, h2⟩ := sim_push h (t : Int) x
    rw [shiftF, shiftQ, h1]
    split
    · exact sim_shift l _ _ t h2
    · exact ⟨rfl, h⟩
/-- What a shift does to lengths, and that the lines stay of a kind. -/
theorem shiftQ_small (P : ByteArray → Prop) : ∀ (l : List ByteArray) (q : QueueSt) (t : Nat), (∀ x ∈ l, P x) → (∀ x ∈ q.wait, P x.2) → (shiftQ l q t).1.length ≤ l.length ∧ (shiftQ l q t).2.wait.length ≤ q.wait.length + l.length ∧ (∀ x ∈ (shiftQ l q t).1, P x) ∧ (∀ x ∈ (shiftQ l q t).2.wait, P x.2)
  | [], q, t, h1, h2 => ⟨Nat.le_refl _, Nat.le_refl _, h1, h2⟩
  | x :: l, q, t, h1, h2 => by
    rw [shiftQ]
    split
    · obtain ⟨-, e⟩ := queuePush_wait q (t : Int) x
      have hw : (queuePush q t x).2.wait.length ≤ q.wait.length + 1 := by
        rcases e with e | ⟨k, e⟩
        · rw [e]; omega
        · rw [e, List.length_append]; simp
      have hp : ∀ y ∈ (queuePush q t x).2.wait, P y.2 := fun y hy => by
        rcases e with e | ⟨k, e⟩
        · rw [e] at hy; exact h2 y hy
        · rw [e] at hy
          rcases List.mem_append.1 hy with hy | hy
          · exact h2 y hy
          · simp at hy; rw [hy]; exact h1 x List.mem_cons_self
      obtain ⟨i1, i2, i3, i4⟩ := shiftQ_small P l (queuePush q t x).2 t (fun y hy => h1 y (List.mem_cons_of_mem _ hy)) hp
      refine ⟨?_, ?_, i3, i4⟩
      · rw [List.length_cons]; omega
      · rw [List.length_cons]; omega
    · exact ⟨Nat.le_refl _, Nat.le_add_right _ _, h1, h2⟩
theorem queuePop_small (P : ByteArray → Prop) (q : QueueSt) (h : ∀ x ∈ q.wait, P x.2) : (queuePop q).2.wait.length ≤ q.wait.length ∧ (∀ x ∈ (queuePop q).2.wait, P x.2) ∧ (queuePop q).2.n = q.n := by
  unfold queuePop
  dsimp only
  split
  · exact ⟨Nat.le_refl _, h, rfl⟩
  · refine ⟨?_, fun x hx => ?_, rfl⟩
    · show (q.wait.take _ ++ q.wait.drop _).length ≤ _
      rw [List.length_append, List.length_take, List.length_drop]; omega
    · rcases List.mem_append.1 hx with hx | hx
      · exact h x (List.mem_of_mem_take hx)
      · exact h x (List.mem_of_mem_drop hx)
/-- What is popped: a tenant, the first line of its own. -/
theorem turnPop_some {s : TurnSt} {i : Int} {x : ByteArray} {st' : TurnSt} (hpos : 0 < s.n) (h : turnPop s = ((i, x, true), st')) : ∃ k : Nat, i = (k : Int) ∧ k < s.n ∧ x ∈ s.at k ∧ st'.n = s.n := by
  unfold turnPop at h
  rcases seek_spec s s.n 0 with ⟨h1, h2⟩ | ⟨j, h1, h2, h3, h4, h5⟩
  · rw [h1] at h; simp at h
  · rw [h3] at h
    simp only [Prod.mk.injEq] at h
    obtain ⟨⟨e1, e2, -⟩, e3⟩ := h
    refine ⟨_, e1.symm, Nat.mod_lt _ hpos, ?_, ?_⟩
    · rw [← e2]
      cases hc : s.at ((s.next + j) % s.n) with
      | nil => exact absurd hc h4
      | cons a b => exact List.mem_cons_self
    · rw [← e3]; simp [TurnSt.n]
theorem turnPop_none {s : TurnSt} {i : Int} {x : ByteArray} {st' : TurnSt} (h : turnPop s = ((i, x, false), st')) : st' = s := by
  unfold turnPop at h
  split at h
  · simp only [Prod.mk.injEq] at h; exact h.2.symm
  · simp at h
theorem qOf_mem {l : List (Nat × ByteArray)} {t : Nat} {x : ByteArray} (h : x ∈ qOf l t) : ∃ y ∈ l, y.2 = x := by
  unfold qOf at h
  obtain ⟨y, hy, e⟩ := List.mem_map.1 h
  exact ⟨y, (List.mem_filter.1 hy).1, e⟩
/-- Behind j deeds: the house and the document's queue say the same. -/
structure LogInv (n j : Nat) (H : HouseS) (q : QueueSt) (C : List (List ByteArray)) (clock : Nat) : Prop where
  hn : H.ports.length = n
  hC : C.length = n
  ht : H.turns.n = n
  sim : TurnSim H.turns q
  port : ∀ (t : Nat) (p : PortS), H.ports[t]? = some p → p.kept = txt [] ∧ C[t]? = some p.come ∧ p.told.length ≤ 1000 * j
  come : ∀ (t : Nat) (l : List ByteArray), C[t]? = some l → l.length ≤ j ∧ ∀ x ∈ l, x = txt [63]
  wait : q.wait.length ≤ 61 * j ∧ ∀ x ∈ q.wait, x.2 = txt [63]
  clock : H.clock = (clock : Int) ∧ clock ≤ j
section
variable {n j clock : Nat} {H : HouseS} {q : QueueSt} {C : List (List ByteArray)}
theorem LogInv.q_n (h : LogInv n j H q C clock) : q.n = n := h.sim.n.trans h.ht
theorem LogInv.start (n : Nat) (hn : 0 < n) : LogInv n 0 ⟨List.replicate n ⟨txt [], [], []⟩, ⟨List.replicate n [], 0⟩, [], 0⟩ ⟨n, 0, []⟩ (List.replicate n []) 0 where
  hn := List.length_replicate
  hC := List.length_replicate
  ht := List.length_replicate
  sim := sim_new n hn
  port := fun t p h => by
    have h1 := List.mem_of_getElem? h
    have h2 := (List.mem_replicate.1 h1).2
    have h3 := (List.getElem?_eq_some_iff.1 h).1
    have h3' : t < n := by simpa using h3
    subst h2
    exact ⟨rfl, by rw [List.getElem?_replicate, if_pos h3'], Nat.zero_le _⟩
  come := fun t l h => by
    have h2 := (List.mem_replicate.1 (List.mem_of_getElem? h)).2
    subst h2
    exact ⟨Nat.zero_le _, fun x hx => by cases hx⟩
  wait := ⟨Nat.zero_le _, fun x hx => by cases hx⟩
  clock := ⟨rfl, Nat.le_refl _⟩
/-- A shift of tenant t, whose port now holds p and whose lines l have come. -/
theorem LogInv.shifted (h : LogInv n j H q C clock) (hj : j < 61) {t : Nat} {st' : TurnSt} {q' : QueueSt} {l : List ByteArray} {told : List UInt8} (ht : t < n) (hs : TurnSim st' q') (hn' : st'.n = n) (hw : q'.wait.length ≤ q.wait.length ∧ ∀ x ∈ q'.wait, x.2 = txt [63]) (hl : l.length ≤ j + 1 ∧ ∀ x ∈ l, x = txt [63]) (hto : told.length ≤ 1000 * (j + 1)) :
    LogInv n (j + 1) ⟨H.ports.set t ⟨txt [], (shiftF l st' t).1, told⟩, (shiftF l st' t).2, H.log, H.clock⟩ (shiftQ l q' t).2 (C.set t (shiftQ l q' t).1) clock := by
  obtain ⟨s1, s2⟩ := sim_shift l st' q' t hs
  obtain ⟨i1, i2, i3, i4⟩ := shiftQ_small (fun x => x = txt [63]) l q' t hl.2 hw.2
  have hww := h.wait.1
  refine { hn := List.length_set.trans h.hn, hC := List.length_set.trans h.hC, ht := (shiftF_n l st' t).trans hn', sim := s2, port := fun s p hp => ?_, come := fun s l' hl' => ?_, wait := ⟨by omega, i4⟩, clock := ⟨h.clock.1, by have := h.clock.2; omega⟩ }
  · have hp : (H.ports.set t ⟨txt [], (shiftF l st' t).1, told⟩)[s]? = some p := hp
    by_cases e : t = s
    · subst e
      rw [List.getElem?_set_self (by rw [h.hn]; exact ht)] at hp
      cases hp
      exact ⟨rfl, by rw [List.getElem?_set_self (by rw [h.hC]; exact ht), s1], hto⟩
    · rw [List.getElem?_set_ne e] at hp
      obtain ⟨p1, p2, p3⟩ := h.port s p hp
      exact ⟨p1, by rw [List.getElem?_set_ne e]; exact p2, by omega⟩
  · by_cases e : t = s
    · subst e
      rw [List.getElem?_set_self (by rw [h.hC]; exact ht)] at hl'
      cases hl'
      exact ⟨by omega, i3⟩
    · rw [List.getElem?_set_ne e] at hl'
      obtain ⟨c1, c2⟩ := h.come s l' hl'
      exact ⟨by omega, c2⟩
theorem LogInv.more (h : LogInv n j H q C clock) : LogInv n (j + 1) H q C clock :=
  { h with port := fun t p hp => ⟨(h.port t p hp).1, (h.port t p hp).2.1, by have := (h.port t p hp).2.2; omega⟩, come := fun t l hl => ⟨by have := (h.come t l hl).1; omega, (h.come t l hl).2⟩, wait := ⟨by have := h.wait.1; omega, h.wait.2⟩, clock := ⟨h.clock.1, by have := h.clock.2; omega⟩ }
theorem LogInv.ticked (h : LogInv n j H q C clock) (L : List UInt8) : LogInv n (j + 1) ⟨H.ports, H.turns, L, H.clock + 1⟩ q C (clock + 1) :=
  { hn := h.hn, hC := h.hC, ht := h.ht, sim := h.sim, port := h.more.port, come := h.more.come, wait := h.more.wait, clock := ⟨by show H.clock + 1 = _; rw [h.clock.1]; omega, by have := h.clock.2; omega⟩ }
/-- Nothing waits. -/
theorem LogInv.idle (h : LogInv n j H q C clock) {st' : TurnSt} {q' : QueueSt} (hs : TurnSim st' q') (hn' : st'.n = n) (hw : q'.wait.length ≤ q.wait.length ∧ ∀ x ∈ q'.wait, x.2 = txt [63]) : LogInv n (j + 1) ⟨H.ports, st', H.log, H.clock⟩ q' C clock :=
  { hn := h.hn, hC := h.hC, ht := hn', sim := hs, port := h.more.port, come := h.more.come, wait := ⟨by have := h.wait.1; omega, hw.2⟩, clock := h.more.clock }
end
end Go.Proofs.YtabhpbkkjijfjaaGreatDoor
