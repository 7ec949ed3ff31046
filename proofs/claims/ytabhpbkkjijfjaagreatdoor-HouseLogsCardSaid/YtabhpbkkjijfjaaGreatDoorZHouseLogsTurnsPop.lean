/-
  turns.Pop, turns.New.
-/
import Derived.Test.YtabhpbkkjijfjaaGreatDoorZHouseLogsTurns
namespace Go.Proofs.YtabhpbkkjijfjaaGreatDoor
set_option maxRecDepth 100000
open Go.RowKit

theorem turns_popped {b : Nat} {st : TurnSt} {W : Nat} {vs : List Value} {w : World} {F : Nat → Prop} {k q c g o : Nat} (h : TurnsAt b st W vs w F) (hk : k < st.n) (hq : q = (st.at k).length) (hv : vs[k]? = some (.slice (some ⟨g, o, none⟩) q c)) (h0 : 0 < q) (m : Nat) (hm : m < st.n) :
    ∃ F', IsTurns b { wait := st.wait.set k (st.at k).tail, next := m } ((w.setCell ⟨W, k, none⟩ (.slice (some ⟨g, if c = 1 then o else o + 1, none⟩) (q - 1) (c - 1))).setCell ⟨b, 1, none⟩ (.int .i64 m)) F' ∧ (∀ i, F' i → F i ∨ w.heap.size ≤ i) ∧
      Keeps F w ((w.setCell ⟨W, k, none⟩ (.slice (some ⟨g, if c = 1 then o else o + 1, none⟩) (q - 1) (c - 1))).setCell ⟨b, 1, none⟩ (.int .i64 m)) := by
  have hr := h.rows k _ hv
  rw [← hq] at hr
  have hvl := h.len
  obtain ⟨g', o', e', hcut⟩ := hr.cut (k := 1) (by omega) h0
  simp only [Option.some.injEq, Addr.mk.injEq, and_true] at e'
  obtain ⟨rfl, rfl⟩ := e'
  rw [Nat.one_mul] at hcut
  have hbW : b ≠ W := by
    rintro rfl
    have := h.own.symm.trans h.row
    simp at this
  have hgW : g ≠ W := fun e => by subst e; exact hr.ne_type h.row (by decide) rfl
  have hgb : g ≠ b := fun e => by subst e; exact hr.ne_type h.own (by decide) rfl
  have hn : ({ wait := st.wait.set k (st.at k).tail, next := m } : TurnSt).n = st.n := by simp [TurnSt.n]
  have blk : ∀ i, i ≠ W → i ≠ b → ((w.setCell ⟨W, k, none⟩ (.slice (some ⟨g, if c = 1 then o else o + 1, none⟩) (q - 1) (c - 1))).setCell ⟨b, 1, none⟩ (.int .i64 m)).heap[i]? = w.heap[i]? := fun i h1 h2 => by
    rw [Below.heap_setCell _ _ _ _ h2, Below.heap_setCell _ _ _ _ h1]
  refine ⟨F, ⟨W, vs.set k (.slice (some ⟨g, if c = 1 then o else o + 1, none⟩) (q - 1) (c - 1)), ?_, ?_, ?_, ?_, h.fb, h.fW, ?_, ?_, ?_, ?_, ?_⟩, fun i hi => .inl hi, ?_⟩
  · rw [hn]
    have h1 : (w.setCell ⟨W, k, none⟩ (.slice (some ⟨g, if c = 1 then o else o + 1, none⟩) (q - 1) (c - 1))).heap[b]? = some (.cells #[.slice (some ⟨W, 0, none⟩) st.n st.n, .int .i64 st.next] 88 (0, 0)) := by
      rw [Below.heap_setCell _ _ _ _ hbW]; exact h.own
    rw [Joins.block_setCell h1]; rfl
  · rw [Below.heap_setCell _ _ _ _ (Ne.symm hbW)]
    have h1 : w.heap[W]? = some (.cells vs.toArray 34 (0, 0)) := h.row
    rw [Joins.block_setCell h1]; simp
  · rw [hn, List.length_set]; exact hvl
  · intro i v' hv'
    rw [turnAt_set st k i _ _ hk]
    rw [List.getElem?_set] at hv'
    by_cases hik : i = k
    · subst hik
      rw [if_pos rfl, if_pos (by omega)] at hv'
      simp only [Option.some.injEq] at hv'
      subst hv'
      rw [if_pos rfl, List.length_tail, ← hq]
      have e : ((st.at i).map Value.string).drop 1 = (st.at i).tail.map Value.string := by cases st.at i <;> rfl
      rw [← e]
      exact hcut.keep fun g' hg' => by
        simp only [Value.ownBlock, Option.some.injEq] at hg'
        subst hg'
        exact blk _ hgW hgb
    · rw [if_neg (Ne.symm hik)] at hv'
      rw [if_neg hik]
      have hri := h.rows i v' hv'
      exact hri.keep fun g' hg' => blk g' (fun e => by subst e; exact hri.ne_type h.row (by decide) hg') (fun e => by subst e; exact hri.ne_type h.own (by decide) hg')
  · intro i v' g' hv' hg'
    rw [List.getElem?_set] at hv'
    by_cases hik : k = i
    · rw [if_pos hik, if_pos (by omega)] at hv'
      simp only [Option.some.injEq] at hv'
      subst hv'
      exact h.fr k _ g' hv hg'
    · rw [if_neg hik] at hv'
      exact h.fr i v' g' hv' hg'
  · intro i hi
    have := h.lt i hi
    simpa [World.setCell] using this
  · intro i j v' v'' g' hij hvi hvj hgi
    rw [List.getElem?_set] at hvi hvj
    by_cases hki : k = i
    · rw [if_pos hki, if_pos (by omega)] at hvi
      simp only [Option.some.injEq] at hvi
      subst hvi
      rw [if_neg (by omega)] at hvj
      exact h.apart k j _ v'' g' (by omega) hv hvj hgi
    · rw [if_neg hki] at hvi
      by_cases hkj : k = j
      · rw [if_pos hkj, if_pos (by omega)] at hvj
        simp only [Option.some.injEq] at hvj
        subst hvj
        intro e
        exact h.apart i k v' (.slice (some ⟨g, o, none⟩) q c) g' (by omega) hvi hv hgi e
      · rw [if_neg hkj] at hvj
        exact h.apart i j v' v'' g' hij hvi hvj hgi
  · rw [hn]; exact h.small
  · rw [hn]; exact hm
  · exact ((Keeps.refl F w).setCell (fun _ => h.fW) _).setCell (fun _ => h.fb) _

set_option maxRecDepth 100000 in
set_option maxHeartbeats 1000000 in
theorem pop_any (b : Nat) (st : TurnSt) (F : Nat → Prop) (w : World) (h : IsTurns b st w F) :
    Calls Tryz.prog 22 #[.pointer (some ⟨b, 0, none⟩)] w (Mut w F (IsTurns b (turnPop st).2) (.tuple #[.int .i64 (turnPop st).1.1, .string (turnPop st).1.2.1, .bool (turnPop st).1.2.2])) := by
  have hIT := Lib.hid h
  obtain ⟨W, vs, h⟩ := h
  have c0 : w.cell? ⟨b, 0, none⟩ = some (.slice (some ⟨W, 0, none⟩) st.n st.n) := by rw [Joins.cell_of_block h.own]; rfl
  have c1 : w.cell? ⟨b, 1, none⟩ = some (.int .i64 st.next) := by rw [Joins.cell_of_block h.own]; rfl
  have f1 : w.frozen? ⟨b, 1, none⟩ = false := Joins.unfrozen_of_block h.own 1
  have hsm := h.small
  have hnx := h.next
  obtain ⟨n, hn⟩ : ∃ n, n = st.n := ⟨_, rfl⟩
  obtain ⟨x, hx⟩ : ∃ x, x = st.next := ⟨_, rfl⟩
  rw [← hn] at c0 hsm hnx
  rw [← hx] at c1 hnx
  have HN := Lib.hid hn
  have HX := Lib.hid hx
  clear hn hx
  go_enter Tryz.func22, Tryz.ntmps22
  go_wp2_with fail
  go_loop [17] (fun i => ∃ j : Nat, j ≤ n ∧ i = .int .i64 j ∧ turnSeek st 0 n = turnSeek st j (n - j)) (fun i => n - (intOf i).toNat)
  case atStart => exact ⟨0, Nat.zero_le _, rfl, rfl⟩
  case round =>
    obtain ⟨j, hj, rfl, hs⟩ := hrel
    have HS := Lib.hid hs
    clear hs
    by_cases hlt : j < n
    · obtain ⟨i, hi⟩ : ∃ i, i = (x + j) % n := ⟨_, rfl⟩
      have hin : i < n := by rw [hi]; exact Nat.mod_lt _ (by omega)
      have e1 : ((x : Int) + (j : Int)) % (n : Int) = (i : Int) := by rw [hi]; simp
      have hk : i < vs.length := by have := HN.out; have := h.len; omega
      obtain ⟨v, hv⟩ : ∃ v, vs[i]? = some v := ⟨vs[i], List.getElem?_eq_getElem hk⟩
      have hr := h.rows i v hv
      obtain ⟨a, c, rfl, hqc, hcm, _⟩ := hr.form
      have c2 : w.cell? ⟨W, i, none⟩ = some (.slice a (st.at i).length c) := by rw [Joins.cell_of_block h.row]; simpa using hv
      have f2 : w.frozen? ⟨W, i, none⟩ = false := Joins.unfrozen_of_block h.row i
      obtain ⟨q, hq⟩ : ∃ q, q = (st.at i).length := ⟨_, rfl⟩
      rw [← hq] at c2 hr hqc hv
      have HI := Lib.hid hi
      have HV := Lib.hid hv
      have HR := Lib.hid hr
      have HQ := Lib.hid hq
      clear hi hv hr hq
      rcases Nat.eq_zero_or_pos q with h0 | h0
      · subst h0
        go_wp2_with fail
        refine ⟨⟨j + 1, by omega, by go_num, ?_⟩, by simp [intOf]; omega⟩
        rw [HS.out, show n - j = (n - (j + 1)) + 1 by omega, turnSeek, if_pos (by rw [← HN.out, ← HX.out, ← HI.out]; exact HQ.out.symm)]
      · have hm0 : (0 : Int) < (q : Int) := by omega
        have hm1 : ¬ (q : Int) = 0 := by omega
        have hpos : ¬ ((q : Int) == 0) = true := by simpa using hm1
        obtain ⟨g, o, rfl, hcell, hfz, hgl⟩ := HR.out.cells h0
        have hx0 : (st.at i)[0]? = some ((st.at i).headD ⟨#[]⟩) := by
          cases hh : st.at i with
          | nil => have := HQ.out; rw [hh] at this; simp at this; omega
          | cons y ys => rfl
        have c3 : w.cell? ⟨g, o, none⟩ = some (.string ((st.at i).headD ⟨#[]⟩)) := by
          have := hcell 0 (by omega)
          rw [Nat.add_zero] at this
          rw [this, List.getElem?_map, hx0]; rfl
        obtain ⟨t0, ht0⟩ : ∃ t0, t0 = (st.at i).headD ⟨#[]⟩ := ⟨_, rfl⟩
        rw [← ht0] at c3
        have HT := Lib.hid ht0
        have HC := Lib.hid hcell
        have HX0 := Lib.hid hx0
        have HF := Lib.hid hfz
        clear hcell hfz hx0 ht0
        have i1 : (0 : Int) ≤ (i : Int) := by omega
        have i2 : (i : Int) < (n : Int) := by omega
        have i3 : (1 : Int) ≤ (q : Int) := by omega
        have hbW : b ≠ W := by
          rintro rfl
          have := h.own.symm.trans h.row
          simp at this
        have hWb : W ≠ b := Ne.symm hbW
        obtain ⟨m, hm⟩ : ∃ m, m = (i + 1) % n := ⟨_, rfl⟩
        have hmn : m < n := by rw [hm]; exact Nat.mod_lt _ (by omega)
        have e2 : ((i : Int) + 1) % (n : Int) = (m : Int) := by rw [hm]; simp
        have HM := Lib.hid hm
        clear hm
        have hp : turnPop st = (((i : Int), t0, true), { wait := st.wait.set i (st.at i).tail, next := m }) := by
          have hsk : turnSeek st j (n - j) = some i := by
            rw [show n - j = (n - (j + 1)) + 1 by omega, turnSeek, if_neg (by rw [← HN.out, ← HX.out, ← HI.out, ← HQ.out]; omega), ← HN.out, ← HX.out, ← HI.out]
          rw [turnPop, ← HN.out, HS.out, hsk, HT.out, HM.out]
        have HP := Lib.hid hp
        clear hp
        by_cases hc1 : c = 1
        · subst hc1
          obtain rfl : q = 1 := by omega
          have HPOP := Lib.hid (turns_popped h (by have := HN.out; omega) HQ.out HV.out h0 m (by have := HN.out; omega))
          go_wp2_with fail
          go_region
          go_wp2_with fail
          go_ret3
          rw [HP.out]
          obtain ⟨F', p1, p2, p3⟩ := HPOP.out
          rw [if_pos (by trivial)] at p1 p3
          exact ⟨rfl, F', p1.drew, p2, p3.drew⟩
        · have HPOP := Lib.hid (turns_popped h (by have := HN.out; omega) HQ.out HV.out h0 m (by have := HN.out; omega))
          go_wp2_with fail
          go_region
          go_wp2_with fail
          go_ret3
          rw [HP.out]
          obtain ⟨F', p1, p2, p3⟩ := HPOP.out
          rw [if_neg hc1] at p1 p3
          exact ⟨rfl, F', p1.drew, p2, p3.drew⟩
    · obtain rfl : j = n := by omega
      have hp : turnPop st = ((0, ⟨#[]⟩, false), st) := by
        rw [turnPop, ← HN.out, HS.out, Nat.sub_self]; rfl
      have HP := Lib.hid hp
      clear hp
      go_wp2_with fail
      go_ret3
      rw [HP.out]
      exact Mut.same hIT.out

theorem infoStrs : (Tryz.prog.info? 34).map (fun i => (i.zero, i.size, i.bytes)) = some (some (.slice none 0 0), 1, 24) := by kernel_rfl
/-- What New comes to: an error, or fresh turns. -/
def NewTurns (n : Int) (w : World) (e : Ending) (w' : World) : Prop :=
  if n < 1 ∨ 64 < n then e = .returned (.tuple #[.pointer none, .int .i64 3]) ∧ w = w'
  else ∃ b F, e = .returned (.tuple #[.pointer (some ⟨b, 0, none⟩), .int .i64 0]) ∧ IsTurns b ⟨List.replicate n.toNat [], 0⟩ w' F ∧ (∀ i, F i → w.heap.size ≤ i) ∧ Below w.heap.size w w'
set_option maxRecDepth 100000 in
set_option maxHeartbeats 1000000 in
theorem new_any (n : Int) (w : World) : Calls Tryz.prog 17 #[.int .i64 n] w (NewTurns n w) := by
  rcases (show n < 1 ∨ (1 ≤ n ∧ 64 < n) ∨ (1 ≤ n ∧ n ≤ 64) by omega) with h | ⟨h1, h⟩ | ⟨h1, h⟩
  · go_enter Tryz.func17, Tryz.ntmps17
    go_wp2_with fail
    go_ret2
    rw [NewTurns, if_pos (.inl h)]
    exact ⟨rfl, rfl⟩
  · go_enter Tryz.func17, Tryz.ntmps17
    go_wp2_with fail
    go_ret2
    rw [NewTurns, if_pos (.inr h)]
    exact ⟨rfl, rfl⟩
  · obtain ⟨k, rfl⟩ := Int.eq_ofNat_of_zero_le (show 0 ≤ n by omega)
    obtain ⟨i0, hi, hz0, hz1, hz2⟩ := info_parts infoStrs
    have hmk : (Instr.makeSlice 33 (.int .i64 (k : Int)) (.int .i64 (k : Int))).run Tryz.prog w = .ok (.slice (some ⟨w.heap.size, 0, none⟩) k k) (w.alloc (.cells (madeCells #[.slice none 0 0] (k * i0.size)) 34)) :=
      run_make_rowN (P := Tryz.prog) 33 34 i0 _ Tryz.underlying33 hi hz0 .i64 .i64 k k (Nat.le_refl _) (by rw [hz2]; omega) (by omega) w
    rw [hz1, Nat.mul_one] at hmk
    go_enter Tryz.func17, Tryz.ntmps17
    go_wp2_with fail
    go_ret2
    have hn : (⟨List.replicate k [], 0⟩ : TurnSt).n = k := by simp [TurnSt.n]
    have hW : ((w.alloc (.cells (madeCells #[Value.slice none 0 0] k) 34)).alloc (.cells #[.slice (some ⟨w.heap.size, 0, none⟩) k k, .int .i64 0] 88)).heap[w.heap.size]? = some (.cells (List.replicate k (.slice none 0 0)).toArray 34 (0, 0)) := by
      rw [blk_alloc (blk_last w _ rfl), ← toList_madeCells_one]
    have hat : ∀ i, (⟨List.replicate k [], 0⟩ : TurnSt).at i = [] := fun i => by
      simp only [TurnSt.at, List.getD_eq_getElem?_getD, List.getElem?_replicate]; split <;> rfl
    have hnil : ∀ (i : Nat) (v : Value), (List.replicate k (Value.slice none 0 0))[i]? = some v → v = .slice none 0 0 := fun i v hv => by
      rw [List.getElem?_replicate] at hv; split at hv
      · exact (Option.some.inj hv).symm
      · cases hv
    rw [NewTurns, if_neg (by omega), Int.toNat_natCast]
    refine ⟨w.heap.size + 1, fun i => i = w.heap.size ∨ i = w.heap.size + 1, rfl, ⟨w.heap.size, List.replicate k (.slice none 0 0), ?_, hW, ?_, ?_, .inr rfl, .inl rfl, ?_, ?_, ?_, ?_, ?_⟩, ?_, ?_⟩
    · rw [hn]; exact blk_last _ _ (by simp)
    · rw [hn, List.length_replicate]
    · intro i v hv
      rw [hnil i v hv, hat i]
      exact Row.nil _ _ _
    · intro i v g hv hg
      rw [hnil i v hv] at hg
      cases hg
    · intro i hi
      simp
      omega
    · intro i j v v' g _ hv _ hg
      rw [hnil i v hv] at hg
      cases hg
    · rw [hn]; omega
    · rw [hn]; show 0 < k; omega
    · intro i hi
      show w.heap.size ≤ i
      rcases hi with rfl | rfl <;> omega
    · exact ((Below.refl _ _).alloc (Nat.le_refl _) _).alloc (by simp) _
end Go.Proofs.YtabhpbkkjijfjaaGreatDoor
