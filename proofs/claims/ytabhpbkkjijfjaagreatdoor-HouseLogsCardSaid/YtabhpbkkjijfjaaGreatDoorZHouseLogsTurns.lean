/-
  turns.Turns in memory; what New, Push, Waits and Pop come to.
-/
import Derived.Test.YtabhpbkkjijfjaaGreatDoorZHouseLogs4
import Derived.Test.YtabhpbkkjijfjaaGreatDoorTurnMath
namespace Go.Proofs.YtabhpbkkjijfjaaGreatDoor
set_option maxRecDepth 100000
open Go.RowKit

structure TurnsAt (b : Nat) (st : TurnSt) (W : Nat) (vs : List Value) (w : World) (F : Nat → Prop) : Prop where
  own : w.heap[b]? = some (.cells #[.slice (some ⟨W, 0, none⟩) st.n st.n, .int .i64 st.next] 88 (0, 0))
  row : w.heap[W]? = some (.cells vs.toArray 34 (0, 0))
  len : vs.length = st.n
  rows : ∀ (i : Nat) (v : Value), vs[i]? = some v → Row w 9 1 v (st.at i).length ((st.at i).map Value.string)
  fb : F b
  fW : F W
  fr : ∀ (i : Nat) (v : Value) (g : Nat), vs[i]? = some v → v.ownBlock = some g → F g
  lt : ∀ i, F i → i < w.heap.size
  apart : ∀ (i j : Nat) (v v' : Value) (g : Nat), i ≠ j → vs[i]? = some v → vs[j]? = some v' → v.ownBlock = some g → v'.ownBlock ≠ some g
  small : st.n ≤ 64
  next : st.next < st.n
def IsTurns (b : Nat) (st : TurnSt) (w : World) (F : Nat → Prop) : Prop := ∃ W vs, TurnsAt b st W vs w F
theorem IsTurns.keep {b : Nat} {st : TurnSt} {w w' : World} {F G : Nat → Prop} (h : IsTurns b st w F) (k : Keeps G w w') (hd : ∀ i, F i → ¬ G i) : IsTurns b st w' F := by
  obtain ⟨W, vs, h⟩ := h
  have blk : ∀ i, F i → w'.heap[i]? = w.heap[i]? := fun i hi => k.block i (h.lt i hi) (hd i hi)
  exact ⟨W, vs, (blk b h.fb).trans h.own, (blk W h.fW).trans h.row, h.len, fun i v hv => (h.rows i v hv).keep fun g hg => blk g (h.fr i v g hv hg), h.fb, h.fW, h.fr, fun i hi => Nat.lt_of_lt_of_le (h.lt i hi) k.size, h.apart, h.small, h.next⟩

theorem IsTurns.drew {b : Nat} {st : TurnSt} {w : World} {F : Nat → Prop} (h : IsTurns b st w F) : IsTurns b st w.drew F := h.keep (Keeps.refl (fun _ => False) w).drew (fun _ _ h => h)
theorem waits_any (b : Nat) (st : TurnSt) (F : Nat → Prop) (t : Int) (w : World) (h : IsTurns b st w F) :
    Calls Tryz.prog 27 #[.pointer (some ⟨b, 0, none⟩), .int .i64 t] w fun e w' => e = .returned (.int .i64 (turnWaits st t)) ∧ w = w' := by
  obtain ⟨W, vs, h⟩ := h
  have c0 : w.cell? ⟨b, 0, none⟩ = some (.slice (some ⟨W, 0, none⟩) st.n st.n) := by rw [Joins.cell_of_block h.own]; rfl
  have hsm := h.small
  obtain ⟨n, hn⟩ : ∃ n, n = st.n := ⟨_, rfl⟩
  rw [← hn] at c0 hsm
  have HN := Lib.hid hn
  clear hn
  rcases (show t < 0 ∨ (0 ≤ t ∧ (n : Int) ≤ t) ∨ (0 ≤ t ∧ t < (n : Int)) by omega) with ht | ⟨h0, ht⟩ | ⟨h0, ht⟩
  · have e : turnWaits st t = 0 := by rw [turnWaits, if_pos (.inl ht)]
    rw [e]
    go_enter Tryz.func27, Tryz.ntmps27
    go_wp2_with fail
    go_ret
    exact ⟨rfl, rfl⟩
  · have e : turnWaits st t = 0 := by rw [turnWaits, if_pos (.inr (by have := HN.out; omega))]
    rw [e]
    go_enter Tryz.func27, Tryz.ntmps27
    go_wp2_with fail
    go_ret
    exact ⟨rfl, rfl⟩
  · obtain ⟨k, rfl⟩ := Int.eq_ofNat_of_zero_le h0
    have hk : k < vs.length := by have := HN.out; have := h.len; omega
    obtain ⟨v, hv⟩ : ∃ v, vs[k]? = some v := ⟨vs[k], List.getElem?_eq_getElem hk⟩
    have hr := h.rows k v hv
    obtain ⟨a, c, hvf, _⟩ := hr.form
    have c1 : w.cell? ⟨W, k, none⟩ = some (.slice a (st.at k).length c) := by rw [Joins.cell_of_block h.row, ← hvf]; simpa using hv
    have e : turnWaits st (k : Int) = ((st.at k).length : Int) := by rw [turnWaits, if_neg (by have := HN.out; omega), Int.toNat_natCast]
    rw [e]
    obtain ⟨q, hq⟩ : ∃ q, q = (st.at k).length := ⟨_, rfl⟩
    rw [← hq] at c1 ⊢
    clear hq hvf hr hv
    go_enter Tryz.func27, Tryz.ntmps27
    go_wp2_with fail
    go_ret
    exact ⟨rfl, rfl⟩
theorem turns_pushed {b : Nat} {st : TurnSt} {W : Nat} {vs : List Value} {w w1 : World} {F : Nat → Prop} {k q c g off cap : Nat} {a : Option Addr} {x : ByteArray} {o : Obj} (h : TurnsAt b st W vs w F) (hk : k < st.n) (hq : q = (st.at k).length) (hv : vs[k]? = some (.slice a q c))
    (hrow : Row w1 9 1 (.slice (some ⟨g, off, none⟩) (q + 1) cap) (q + 1) ((st.at k).map Value.string ++ [.string x])) (hg : (w.alloc o).drew.grownBy w1 (Value.slice a q c).ownBlock)
    (hat : (Value.slice a q c).ownBlock = some g ∨ g = (w.alloc o).drew.heap.size) :
    Mut w F (IsTurns b { wait := st.wait.set k (st.at k ++ [x]), next := st.next }) (.int .i64 0) (.returned (.int .i64 0)) (w1.setCell ⟨W, k, none⟩ (.slice (some ⟨g, off, none⟩) (q + 1) cap)) := by
  have hr := h.rows k _ hv
  rw [← hq] at hr
  have hWne : some W ≠ (Value.slice a q c).ownBlock := fun e => hr.ne_type h.row (by decide) e.symm
  have hbne : some b ≠ (Value.slice a q c).ownBlock := fun e => hr.ne_type h.own (by decide) e.symm
  have hbl := lt_of_block h.own
  have hWl := lt_of_block h.row
  have hz : (w.alloc o).drew.heap.size = w.heap.size + 1 := by simp
  have old : ∀ i, i < w.heap.size → some i ≠ (Value.slice a q c).ownBlock → w1.heap[i]? = w.heap[i]? := fun i hi hne =>
    (hg.block i (by omega) hne).trans (Below.heap_alloc w o i hi)
  have hb1 := (old b hbl hbne).trans h.own
  have hW1 := (old W hWl hWne).trans h.row
  have hbW : b ≠ W := by
    rintro rfl
    rw [hb1] at hW1
    simp at hW1
  have hgW : g ≠ W := fun e => by
    subst e
    obtain ⟨cur, hc⟩ := hrow.typed g rfl
    rw [hW1] at hc
    simp at hc
  have hn : ({ wait := st.wait.set k (st.at k ++ [x]), next := st.next } : TurnSt).n = st.n := by simp [TurnSt.n]
  have hgl : g < w1.heap.size := hrow.lt g rfl
  have hsz := hg.size
  have hvl := h.len
  refine ⟨rfl, fun i => F i ∨ i = g, ⟨W, vs.set k (.slice (some ⟨g, off, none⟩) (q + 1) cap), ?_, ?_, ?_, ?_, .inl h.fb, .inl h.fW, ?_, ?_, ?_, ?_, ?_⟩, ?_, ?_⟩
  · rw [hn, Below.heap_setCell _ _ _ _ hbW]; exact hb1
  · rw [Joins.block_setCell hW1]; simp
  · rw [hn, List.length_set]; exact hvl
  · intro i v' hv'
    rw [turnAt_set st k i _ _ hk]
    rw [List.getElem?_set] at hv'
    by_cases hik : i = k
    · subst hik
      rw [if_pos rfl, if_pos (by omega)] at hv'
      simp only [Option.some.injEq] at hv'
      subst hv'
      rw [if_pos rfl, List.length_append, ← hq, List.map_append]
      exact hrow.keep fun g' hg' => by
        simp only [Value.ownBlock, Option.some.injEq] at hg'
        subst hg'
        exact Below.heap_setCell _ _ _ _ hgW
    · rw [if_neg (Ne.symm hik)] at hv'
      rw [if_neg hik]
      have hri := h.rows i v' hv'
      exact hri.keep fun g' hg' => by
        rw [Below.heap_setCell _ _ _ _ (fun e => by subst e; exact hri.ne_type h.row (by decide) hg')]
        exact old g' (hri.lt g' hg') (fun e => h.apart i k _ _ g' hik hv' hv hg' e.symm)
  · intro i v' g' hv' hg'
    rw [List.getElem?_set] at hv'
    by_cases hik : k = i
    · rw [if_pos hik, if_pos (by omega)] at hv'
      simp only [Option.some.injEq] at hv'
      subst hv'
      simp only [Value.ownBlock, Option.some.injEq] at hg'
      exact .inr hg'.symm
    · rw [if_neg hik] at hv'
      exact .inl (h.fr i v' g' hv' hg')
  · intro i hi
    have e : (w1.setCell ⟨W, k, none⟩ (.slice (some ⟨g, off, none⟩) (q + 1) cap)).heap.size = w1.heap.size := by simp [World.setCell]
    rw [e]
    rcases hi with hi | rfl
    · have := h.lt i hi; omega
    · exact hgl
  · intro i j v' v'' g' hij hvi hvj hgi
    rw [List.getElem?_set] at hvi hvj
    have other : ∀ (i : Nat) (v' : Value), i ≠ k → vs[i]? = some v' → v'.ownBlock ≠ some g := by
      intro i v' hne hv' e
      rcases hat with hat | hat
      · exact h.apart i k _ _ g hne hv' hv e hat
      · have := (h.rows i v' hv').lt g e
        omega
    by_cases hki : k = i
    · rw [if_pos hki, if_pos (by omega)] at hvi
      simp only [Option.some.injEq] at hvi
      subst hvi
      simp only [Value.ownBlock, Option.some.injEq] at hgi
      subst hgi
      rw [if_neg (by omega)] at hvj
      exact other j v'' (by omega) hvj
    · rw [if_neg hki] at hvi
      by_cases hkj : k = j
      · rw [if_pos hkj, if_pos (by omega)] at hvj
        simp only [Option.some.injEq] at hvj
        subst hvj
        intro e
        simp only [Value.ownBlock, Option.some.injEq] at e
        subst e
        exact other i v' (by omega) hvi hgi
      · rw [if_neg hkj] at hvj
        exact h.apart i j v' v'' g' hij hvi hvj hgi
  · rw [hn]; exact h.small
  · rw [hn]; exact h.next
  · intro i hi
    rcases hi with hi | rfl
    · exact .inl hi
    · rcases hat with hat | hat
      · exact .inl (h.fr k _ i hv hat)
      · exact .inr (by omega)
  · refine Keeps.setCell ?_ (fun _ => h.fW) _
    refine Keeps.grown ((Keeps.refl F w).alloc o).drew hg fun g' hg' _ => h.fr k _ g' hv hg'
theorem infoStrT : (Tryz.prog.info? 9).map (fun i => (i.zero, i.size, i.bytes)) = some (some (.string ⟨#[]⟩), 1, 16) := by kernel_rfl
set_option maxRecDepth 100000 in
set_option maxHeartbeats 1000000 in
theorem push_any (b : Nat) (st : TurnSt) (F : Nat → Prop) (t : Int) (x : ByteArray) (w : World) (h : IsTurns b st w F) :
    Calls Tryz.prog 33 #[.pointer (some ⟨b, 0, none⟩), .int .i64 t, .string x] w (Mut w F (IsTurns b (turnPush st t x).2) (.int .i64 (turnPush st t x).1)) := by
  have hIT := Lib.hid h
  obtain ⟨W, vs, h⟩ := h
  have c0 : w.cell? ⟨b, 0, none⟩ = some (.slice (some ⟨W, 0, none⟩) st.n st.n) := by rw [Joins.cell_of_block h.own]; rfl
  have hsm := h.small
  obtain ⟨n, hn⟩ : ∃ n, n = st.n := ⟨_, rfl⟩
  rw [← hn] at c0 hsm
  have HN := Lib.hid hn
  clear hn
  rcases (show t < 0 ∨ (0 ≤ t ∧ (n : Int) ≤ t) ∨ (0 ≤ t ∧ t < (n : Int)) by omega) with ht | ⟨h0, ht⟩ | ⟨h0, ht⟩
  · have e : turnPush st t x = (3, st) := by rw [turnPush, if_pos (.inl ht)]
    rw [e]
    go_enter Tryz.func33, Tryz.ntmps33
    go_wp2_with fail
    go_ret
    exact Mut.same hIT.out
  · have e : turnPush st t x = (3, st) := by rw [turnPush, if_pos (.inr (by have := HN.out; omega))]
    rw [e]
    go_enter Tryz.func33, Tryz.ntmps33
    go_wp2_with fail
    go_ret
    exact Mut.same hIT.out
  · obtain ⟨k, rfl⟩ := Int.eq_ofNat_of_zero_le h0
    have hk : k < vs.length := by have := HN.out; have := h.len; omega
    obtain ⟨v, hv⟩ : ∃ v, vs[k]? = some v := ⟨vs[k], List.getElem?_eq_getElem hk⟩
    have hr := h.rows k v hv
    obtain ⟨a, c, hvf, hqc, hcm, _⟩ := hr.form
    have c1 : w.cell? ⟨W, k, none⟩ = some (.slice a (st.at k).length c) := by rw [Joins.cell_of_block h.row, ← hvf]; simpa using hv
    obtain ⟨q, hq⟩ : ∃ q, q = (st.at k).length := ⟨_, rfl⟩
    rw [← hq] at c1 hr hvf hqc
    by_cases h8 : 8 ≤ q
    · have e : turnPush st (k : Int) x = (5, st) := by rw [turnPush, if_neg (by have := HN.out; omega), Int.toNat_natCast, if_pos (by omega)]
      rw [e]
      have h8' : (8 : Int) ≤ (q : Int) := by omega
      clear hq hvf hr hv
      go_enter Tryz.func33, Tryz.ntmps33
      go_wp2_with fail
      go_ret
      exact Mut.same hIT.out
    · have e : turnPush st (k : Int) x = (0, { st with wait := st.wait.set k (st.at k ++ [x]) }) := by rw [turnPush, if_neg (by have := HN.out; omega), Int.toNat_natCast, if_neg (by omega)]
      rw [e]
      have h8' : (q : Int) < 8 := by omega
      subst hvf
      have HQ := Lib.hid hq
      have HV := Lib.hid hv
      have HR := Lib.hid hr
      clear hq hr hv
      obtain ⟨i0, hi, hz0, hz1, hz2⟩ := info_parts infoStrT
      go_enter Tryz.func33, Tryz.ntmps33
      go_wp2_with fail
      have hr0 : Row (w.drew.alloc (.cells #[.string x] 9)) 9 1 (.slice a q c) q ((st.at k).map Value.string) := HR.out.keep fun g hg => Below.heap_alloc w.drew _ g (HR.out.lt g hg)
      have hbne : some b ≠ (Value.slice a q c).ownBlock := fun e => HR.out.ne_type h.own (by decide) e.symm
      have hWne : some W ≠ (Value.slice a q c).ownBlock := fun e => HR.out.ne_type h.row (by decide) e.symm
      have hbl := lt_of_block h.own
      have hWl := lt_of_block h.row
      have H1 := Lib.hid hr0
      have H2 := Lib.hid hWne
      have H3 := Lib.hid hbne
      clear hr0 hWne hbne
      go_region_law ((refine step_append_row _ rfl (.tmp 40) (.tmp 42) 34 rfl 9 i0 _ 1 16 Tryz.underlying34 hi hz0 hz1 hz2 rfl (by omega) (.slice a q c) q ((st.at k).map Value.string) rfl H1.out ⟨w.heap.size, 0, none⟩ 1 1 [.string x] rfl rfl (news_alloc w.drew _ _ rfl) (by simp [Value.oneCell']) (by omega) (by unfold maxLen; omega) (by omega) _ rfl ?_; intro g off cap w1 hrow hg hat; have d1 : w1.cell? ⟨W, k, none⟩ = some (.slice a q c) := (hg.cell_far (a := ⟨W, k, none⟩) (by simp; omega) H2.out).trans ((World.cell?_of_block (Below.heap_alloc w.drew _ W hWl)).trans c1); have d2 : w1.frozen? ⟨W, k, none⟩ = false := (hg.frozen_far (a := ⟨W, k, none⟩) (by simp; omega) H2.out).trans ((World.frozen?_of_block (Below.heap_alloc w.drew _ W hWl)).trans (Joins.unfrozen_of_block h.row k)); have d0 : w1.cell? ⟨b, 0, none⟩ = some (.slice (some ⟨W, 0, none⟩) n n) := (hg.cell_far (a := ⟨b, 0, none⟩) (by simp; omega) H3.out).trans ((World.cell?_of_block (Below.heap_alloc w.drew _ b hbl)).trans c0)))
      all_goals
        have hq := HQ.out
        have hv := HV.out
        go_wp2_with fail
        go_ret
        exact turns_pushed h (by have := h.len; omega) hq hv hrow hg hat

end Go.Proofs.YtabhpbkkjijfjaaGreatDoor
