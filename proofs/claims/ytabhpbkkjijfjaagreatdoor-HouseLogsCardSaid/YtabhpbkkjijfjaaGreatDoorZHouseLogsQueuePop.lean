/-
  The document's Pop.
-/
import Derived.IntWalk
import Derived.Test.YtabhpbkkjijfjaaGreatDoorZHouseLogsQueuePush
namespace Go.Proofs.YtabhpbkkjijfjaaGreatDoor
set_option maxRecDepth 100000
open Go.RowKit

theorem queue_popped {b : Nat} {q : QueueSt} {L : Nat} {v v2 : Value} {w wr X w1 w2 : World} {F : Nat → Prop} {k m : Nat} {row1 : Option Nat} (h : QueueAt b q L v w F) (hB : Below w.heap.size w wr) (hX : Below wr.heap.size wr X) (hk : k < q.wait.length) (hm : m < q.n)
    (hg1 : X.grownBy w1 none) (hg2 : w1.grownBy w2 row1) (hr1 : ∀ g, row1 = some g → X.heap.size ≤ g) (hrow : Row w2 71 2 v2 (k + (q.wait.length - (k + 1))) ((q.wait.flatMap encLine).take (k * 2) ++ (q.wait.flatMap encLine).drop ((k + 1) * 2))) (hv2 : ∀ g, v2.ownBlock = some g → X.heap.size ≤ g) :
    ∃ F', IsQueue b { q with wait := q.wait.take k ++ q.wait.drop (k + 1), next := m } L ((w2.setCell ⟨b, 2, none⟩ v2).setCell ⟨b, 1, none⟩ (.int .i64 m)) F' ∧ (∀ i, F' i → F i ∨ w.heap.size ≤ i) ∧ Keeps F w ((w2.setCell ⟨b, 2, none⟩ v2).setCell ⟨b, 1, none⟩ (.int .i64 m)) := by
  have hbl := lt_of_block h.own
  have z0 := hB.size
  have z1 := hX.size
  have z2 := hg1.size
  have z3 := hg2.size
  have hb1 : w2.heap[b]? = some (.cells #[.int .i64 q.n, .int .i64 q.next, v] 69 (0, 0)) := by
    rw [hg2.block b (by omega) (fun e => by have := hr1 b e.symm; omega), hg1.block b (by omega) (by simp), hX.block b (by omega), hB.block b hbl]; exact h.own
  have hbg : ∀ g, v2.ownBlock = some g → g ≠ b := fun g hg e => by have := hv2 g hg; omega
  refine ⟨fun i => F i ∨ v2.ownBlock = some i, ⟨v2, ?_, ?_, .inl h.fb, fun g hg => .inr hg, fun i hi => ?_, ?_, h.small, hm, fun l hl => ?_⟩, fun i hi => ?_, ?_⟩
  · have h1 : (w2.setCell ⟨b, 2, none⟩ v2).heap[b]? = some (.cells #[.int .i64 q.n, .int .i64 q.next, v2] 69 (0, 0)) := by rw [Joins.block_setCell hb1]; rfl
    rw [Joins.block_setCell h1]; rfl
  · have e1 : (q.wait.take k ++ q.wait.drop (k + 1)).length = k + (q.wait.length - (k + 1)) := by simp; omega
    have e2 : (q.wait.take k ++ q.wait.drop (k + 1)).flatMap encLine = (q.wait.flatMap encLine).take (k * 2) ++ (q.wait.flatMap encLine).drop ((k + 1) * 2) := by
      have split : ∀ j, j ≤ q.wait.length → (q.wait.flatMap encLine).take (j * 2) = (q.wait.take j).flatMap encLine ∧ (q.wait.flatMap encLine).drop (j * 2) = (q.wait.drop j).flatMap encLine := fun j hj => by
        have e : q.wait.flatMap encLine = (q.wait.take j).flatMap encLine ++ (q.wait.drop j).flatMap encLine := by rw [← List.flatMap_append, List.take_append_drop]
        have hl : ((q.wait.take j).flatMap encLine).length = j * 2 := by rw [flat_length (k := 2) (fun _ => rfl), List.length_take]; congr 1; omega
        rw [e, ← hl]
        exact ⟨List.take_left, List.drop_left⟩
      rw [List.flatMap_append, (split k (by omega)).1, (split (k + 1) (by omega)).2]
    show Row _ _ _ _ (q.wait.take k ++ q.wait.drop (k + 1)).length _
    rw [e1, e2]
    exact hrow.keep fun g hg => by rw [Below.heap_setCell _ _ _ _ (hbg g hg), Below.heap_setCell _ _ _ _ (hbg g hg)]
  · have e : ((w2.setCell ⟨b, 2, none⟩ v2).setCell ⟨b, 1, none⟩ (.int .i64 m)).heap.size = w2.heap.size := by simp [World.setCell]
    rw [e]
    rcases hi with hi | hi
    · have := h.lt i hi; omega
    · exact hrow.lt i hi
  · show (q.wait.take k ++ q.wait.drop (k + 1)).length ≤ L
    have := h.len
    simp
    omega
  · have hl' : l ∈ q.wait.take k ++ q.wait.drop (k + 1) := hl
    rcases List.mem_append.1 hl' with hl | hl
    · exact h.all l (List.mem_of_mem_take hl)
    · exact h.all l (List.mem_of_mem_drop hl)
  · rcases hi with hi | hi
    · exact .inl hi
    · exact .inr (by have := hv2 i hi; omega)
  · exact ((((((Keeps.refl F w).below hB).trans (Keeps.of_below (F := F) hX) (fun _ _ h => h)).grown hg1 (fun g hg => by cases hg)).grown hg2 (fun g hg hl => by have := hr1 g hg; omega)).setCell (fun _ => h.fb) _).setCell (fun _ => h.fb) _

theorem flat_oneCell (l : List (Nat × ByteArray)) (i : Nat) : ∀ u ∈ ((l.flatMap encLine).take i), u.oneCell' = true := fun u hu => encLine_one l u (List.mem_of_mem_take hu)
theorem dist_eq {t x n : Nat} (hx : x < n) : ((t : Int) - (x : Int) + (n : Int)) % (n : Int) = (((t + n - x) % n : Nat) : Int) := by
  have e : ((t : Int) - (x : Int) + (n : Int)) = ((t + n - x : Nat) : Int) := by omega
  rw [e, Int.natCast_emod]

set_option maxRecDepth 100000 in
set_option maxHeartbeats 2000000 in
theorem qpop_any (b : Nat) (q : QueueSt) (L : Nat) (F : Nat → Prop) (w : World) (h : IsQueue b q L w F) (hL : L ≤ 1000000) :
    Calls Tryz.prog 9 #[.pointer (some ⟨b, 0, none⟩)] w (Mut w F (IsQueue b (queuePop q).2 L) (.tuple #[.int .i64 (queuePop q).1.1, .string (queuePop q).1.2.1, .bool (queuePop q).1.2.2])) := by
  have hIT := Lib.hid h
  obtain ⟨v, h⟩ := h
  have hlen := h.len
  have hsm := h.small
  have hnx := h.next
  have hbl := lt_of_block h.own
  obtain ⟨a, c, rfl, hqc, hcm, _⟩ := h.row.form
  have c0 : w.cell? ⟨b, 0, none⟩ = some (.int .i64 q.n) := by rw [Joins.cell_of_block h.own]; rfl
  have c1 : w.cell? ⟨b, 1, none⟩ = some (.int .i64 q.next) := by rw [Joins.cell_of_block h.own]; rfl
  have c2 : w.cell? ⟨b, 2, none⟩ = some (.slice a q.wait.length c) := by rw [Joins.cell_of_block h.own]; rfl
  have f1 : w.frozen? ⟨b, 1, none⟩ = false := Joins.unfrozen_of_block h.own 1
  have f2 : w.frozen? ⟨b, 2, none⟩ = false := Joins.unfrozen_of_block h.own 2
  obtain ⟨n, hn⟩ : ∃ n, n = q.n := ⟨_, rfl⟩
  obtain ⟨x, hx⟩ : ∃ x, x = q.next := ⟨_, rfl⟩
  obtain ⟨p, hp⟩ : ∃ p, p = q.wait.length := ⟨_, rfl⟩
  have hrow := h.row
  rw [← hn] at c0 hsm hnx
  rw [← hx] at c1 hnx
  rw [← hp] at c2 hlen hqc hrow
  have HN := Lib.hid hn
  have HX := Lib.hid hx
  have HP := Lib.hid hp
  have HR := Lib.hid hrow
  have HA := Lib.hid h
  clear hn hx hp hrow h
  have hscan := scan_spec q q.wait 0 (-1) q.n
  have HS := Lib.hid hscan
  clear hscan
  go_enter Tryz.func9, Tryz.ntmps9
  go_wp2_with fail
  go_region
  go_wp2_with fail
  go_loopw [5, 6, 20] (fun be di i wr => ∃ (k : Nat) (best : Int) (dist : Nat), k ≤ p ∧ i = .int .i64 k ∧ be = .int .i64 best ∧ di = .int .i64 dist ∧ queueScan q q.wait 0 (-1) q.n = queueScan q (q.wait.drop k) k best dist ∧ dist ≤ n ∧ -1 ≤ best ∧ best < p ∧ Below w.heap.size w wr) (fun _ _ i _ => p - (intOf i).toNat)
  case atStart => exact ⟨0, -1, n, Nat.zero_le _, rfl, rfl, rfl, by rw [HN.out]; rfl, Nat.le_refl _, by omega, by omega, (Below.refl _ _).drew⟩
  case round =>
    obtain ⟨k, best, dist, hk, rfl, rfl, rfl, hsc, hdn, hb0, hb1, hB⟩ := hrel
    have hz := hB.size
    have d0 : wr.cell? ⟨b, 0, none⟩ = some (.int .i64 n) := (hB.cell hbl).trans c0
    have d1 : wr.cell? ⟨b, 1, none⟩ = some (.int .i64 x) := (hB.cell hbl).trans c1
    have d2 : wr.cell? ⟨b, 2, none⟩ = some (.slice a p c) := (hB.cell hbl).trans c2
    have hbr : b < wr.heap.size := by omega
    have HSC := Lib.hid hsc
    clear hsc
    by_cases hlt : k < p
    · obtain ⟨g, o, rfl, hcell, hfz, hgl⟩ := HR.out.cells (by omega)
      have hkl : k < q.wait.length := by have := HP.out; omega
      obtain ⟨l, hl⟩ : ∃ l, q.wait[k]? = some l := ⟨q.wait[k], List.getElem?_eq_getElem hkl⟩
      have g1 := flat_at (k := 2) (enc := encLine) (by omega) (fun _ => rfl) q.wait k 0 l hl (by omega)
      have g2 := flat_at (k := 2) (enc := encLine) (by omega) (fun _ => rfl) q.wait k 1 l hl (by omega)
      have e1 : wr.cell? ⟨g, o + k * 2, none⟩ = some (.int .i64 l.1) := by
        rw [hB.cell hgl]; have := (hcell (k * 2 + 0) (by omega)).trans g1; rw [Nat.add_zero] at this; exact this
      have e2 : wr.cell? ⟨g, o + k * 2 + 1, none⟩ = some (.string l.2) := by
        rw [hB.cell hgl]; have := (hcell (k * 2 + 1) (by omega)).trans g2; rw [← Nat.add_assoc] at this; exact this
      have hdr : q.wait.drop k = l :: q.wait.drop (k + 1) := by
        rw [List.drop_eq_getElem_cons hkl]; congr 1; exact (List.getElem?_eq_some_iff.1 hl).2
      have hln : l.1 < n := by have := HA.out.all l (List.mem_of_getElem? hl); have := HN.out; omega
      obtain ⟨d, hd⟩ : ∃ d, d = qDist q l.1 := ⟨_, rfl⟩
      have hdn2 : d < n := by rw [hd, qDist]; have := HN.out; exact (by rw [← HN.out]; exact Nat.mod_lt _ (by omega))
      have ed : ((l.1 : Int) - (x : Int) + (n : Int)) % (n : Int) = (d : Int) := by rw [dist_eq hnx, hd, qDist, ← HN.out, ← HX.out]
      have HD := Lib.hid hd
      have HDR := Lib.hid hdr
      obtain ⟨lt, ltx⟩ := l
      dsimp only at e1 e2 ed hln
      clear hd hdr g1 g2 hl hcell hfz
      by_cases hdd : d < dist
      · have hdd' : (d : Int) < (dist : Int) := by omega
        go_wp2_with fail
        go_region
        go_wp2_with fail
        refine ⟨⟨k + 1, k, d, by omega, by go_num, rfl, by rw [ed], ?_, by omega, by omega, by omega, (hB.alloc (by omega) _).drew⟩, by simp [intOf]; omega⟩
        rw [HSC.out, HDR.out, queueScan, if_pos (by rw [← HD.out]; exact hdd), ← HD.out]
      · have hdd' : ¬ (d : Int) < (dist : Int) := by omega
        go_wp2_with fail
        go_region
        go_wp2_with fail
        refine ⟨⟨k + 1, best, dist, by omega, by go_num, rfl, rfl, ?_, by omega, by omega, by omega, (hB.alloc (by omega) _).drew⟩, by simp [intOf]; omega⟩
        rw [HSC.out, HDR.out, queueScan, if_neg (by rw [← HD.out]; exact hdd)]
    · obtain rfl : k = p := by omega
      have hfin : queueScan q q.wait 0 (-1) q.n = (best, dist) := by rw [HSC.out, HP.out, List.drop_length]; rfl
      have HF := Lib.hid hfin
      clear hfin
      by_cases hneg : best < 0
      · have hpop : queuePop q = ((0, ⟨#[]⟩, false), q) := by
          rw [queuePop]
          simp only
          rw [HF.out]
          simp only
          rw [if_pos hneg]
        have HPOP := Lib.hid hpop
        clear hpop
        go_wp2_with fail
        go_ret3
        rw [HPOP.out]
        exact ⟨rfl, F, hIT.out.keep (Keeps.of_below (F := fun _ => False) hB) (fun _ _ h => h), fun i hi => .inl hi, Keeps.of_below hB⟩
      · obtain ⟨k0, rfl⟩ := Int.eq_ofNat_of_zero_le (show 0 ≤ best by omega)
        obtain ⟨g, o, rfl, hcell, hfz, hgl⟩ := HR.out.cells (by omega)
        have hkl : k0 < q.wait.length := by have := HP.out; omega
        have hkk : k0 < k := by omega
        obtain ⟨l, hl⟩ : ∃ l, q.wait[k0]? = some l := ⟨q.wait[k0], List.getElem?_eq_getElem hkl⟩
        have g1 := flat_at (k := 2) (enc := encLine) (by omega) (fun _ => rfl) q.wait k0 0 l hl (by omega)
        have g2 := flat_at (k := 2) (enc := encLine) (by omega) (fun _ => rfl) q.wait k0 1 l hl (by omega)
        have e1 : wr.cell? ⟨g, o + k0 * 2, none⟩ = some (.int .i64 l.1) := by
          rw [hB.cell hgl]; have := (hcell (k0 * 2 + 0) (by omega)).trans g1; rw [Nat.add_zero] at this; exact this
        have e2 : wr.cell? ⟨g, o + k0 * 2 + 1, none⟩ = some (.string l.2) := by
          rw [hB.cell hgl]; have := (hcell (k0 * 2 + 1) (by omega)).trans g2; rw [← Nat.add_assoc] at this; exact this
        have hln : l.1 < n := by have := HA.out.all l (List.mem_of_getElem? hl); have := HN.out; omega
        obtain ⟨m, hm⟩ : ∃ m, m = (l.1 + 1) % n := ⟨_, rfl⟩
        have hmn : m < n := by rw [hm]; exact Nat.mod_lt _ (by omega)
        have em : ((l.1 : Int) + 1) % (n : Int) = (m : Int) := by rw [hm]; simp
        have hpop : queuePop q = (((l.1 : Int), l.2, true), { q with wait := q.wait.take k0 ++ q.wait.drop (k0 + 1), next := m }) := by
          rw [queuePop]
          simp only
          rw [HF.out]
          simp only
          rw [if_neg hneg, Int.toNat_natCast, List.getD_eq_getElem?_getD, hl, ← HN.out]
          simp only [Option.getD_some]
          rw [← hm]
        have HPOP := Lib.hid hpop
        have HCELL := Lib.hid hcell
        have HFZ := Lib.hid hfz
        obtain ⟨lt, ltx⟩ := l
        dsimp only at e1 e2 hln em
        clear hpop hm g1 g2 hl hcell hfz
        have i1 : (k0 : Int) ≤ (k : Int) := by omega
        have i2 : (0 : Int) ≤ (k0 : Int) := by omega
        have i3 : (k0 : Int) + 1 ≤ (k : Int) := by omega
        have f1r : wr.frozen? ⟨b, 1, none⟩ = false := (hB.frozen hbl).trans f1
        have f2r : wr.frozen? ⟨b, 2, none⟩ = false := (hB.frozen hbl).trans f2
        obtain ⟨i0, hi, hz0, hz1, hz2⟩ := info_parts infoLine
        have i4 : k0 ≤ c := by omega
        have i5 : k0 + 1 ≤ k := by omega
        have i6 : k ≤ c := by omega
        have i7 : (k0 : Int) ≤ (k0 : Int) + 1 := by omega
        obtain ⟨Y, hXd⟩ : ∃ Y, Y = wr.alloc (.cells #[.int .i64 lt, .string ltx] 71) := ⟨_, rfl⟩
        have hXb : Below wr.heap.size wr Y.drew := by rw [hXd]; exact ((Below.refl _ _).alloc (Nat.le_refl _) _).drew
        have hXz : Y.drew.heap.size = wr.heap.size + 1 := by rw [hXd]; simp
        have hfl : (q.wait.flatMap encLine).length = k * 2 := by rw [flat_length (k := 2) (fun _ => rfl), ← HP.out]
        have hXl : Y.drew.heap[wr.heap.size]? = some (.cells #[.int .i64 lt, .string ltx] 71 (0, 0)) := by rw [hXd]; exact blk_last wr _ rfl
        have hcX : ∀ w1, Y.drew.grownBy w1 none → ∀ j, j < k * 2 → w1.cell? ⟨g, o + j, none⟩ = (q.wait.flatMap encLine)[j]? := fun w1 hg1 j hj => by
          rw [hg1.cell_far ⟨g, o + j, none⟩ (show g < Y.drew.heap.size by omega) (by simp), hXb.cell (p := ⟨g, o + j, none⟩) (by simp; omega), hB.cell (p := ⟨g, o + j, none⟩) hgl]
          exact HCELL.out j hj
        have hs1 : Src Y.drew 2 (some ⟨g, o, none⟩) k0 ((q.wait.flatMap encLine).take (k0 * 2)) := ⟨by rw [List.length_take, hfl]; omega, fun _ => ⟨_, rfl, fun j u hu => by
          rw [Addr.add_lit]
          rw [List.getElem?_take] at hu
          split at hu
          · rw [hcX Y.drew ⟨rfl, rfl, rfl, Nat.le_refl _, fun _ _ _ => rfl⟩ j (by omega)]; exact hu
          · cases hu⟩⟩
        have hs2 : ∀ w1, Y.drew.grownBy w1 none → c ≠ k0 + 1 → Src w1 2 (some ⟨g, o + (k0 + 1) * 2, none⟩) (k - (k0 + 1)) ((q.wait.flatMap encLine).drop ((k0 + 1) * 2)) := fun w1 hg1 _ => ⟨by rw [List.length_drop, hfl]; omega, fun _ => ⟨_, rfl, fun j u hu => by
          rw [Addr.add_lit, Nat.add_assoc]
          rw [List.getElem?_drop] at hu
          have hj : (k0 + 1) * 2 + j < k * 2 := by rw [← hfl]; exact (List.getElem?_eq_some_iff.1 hu).1
          rw [hcX w1 hg1 _ hj]; exact hu⟩⟩
        have hs3 : ∀ w1, Y.drew.grownBy w1 none → c = k0 + 1 → Src w1 2 (some ⟨g, o, none⟩) (k - (k0 + 1)) ((q.wait.flatMap encLine).drop ((k0 + 1) * 2)) := fun w1 hg1 _ => ⟨by rw [List.length_drop, hfl]; omega, fun h0 => by omega⟩
        have hX0 : ∀ w1, Y.drew.grownBy w1 none → w1.cell? ⟨b, 2, none⟩ = some (.slice (some ⟨g, o, none⟩) k c) ∧ w1.frozen? ⟨b, 2, none⟩ = false := fun w1 hg1 => by
          rw [hg1.cell_far ⟨b, 2, none⟩ (show b < Y.drew.heap.size by omega) (by simp), hXb.cell (p := ⟨b, 2, none⟩) hbr, hg1.frozen_far ⟨b, 2, none⟩ (show b < Y.drew.heap.size by omega) (by simp), hXb.frozen (p := ⟨b, 2, none⟩) hbr]
          exact ⟨d2, f2r⟩
        have hX1 : ∀ (w1 w2 : World) (v1 : Value), Y.drew.grownBy w1 none → (v1.ownBlock = (Value.slice none 0 0).ownBlock ∨ v1.ownBlock = some Y.drew.heap.size) → w1.grownBy w2 v1.ownBlock → ∀ i, i < Y.drew.heap.size → w2.heap[i]? = Y.drew.heap[i]? := fun w1 w2 v1 hg1 hat hg2 i hi => by
          have hz1 := hg1.size
          have hne : some i ≠ v1.ownBlock := by
            rcases hat with hat | hat
            · rw [hat]; simp [Value.ownBlock]
            · rw [hat]; intro e; simp only [Option.some.injEq] at e; omega
          rw [hg2.block i (by omega) hne, hg1.block i hi (by simp)]
        have hX2 : ∀ (w2 : World), (∀ i, i < Y.drew.heap.size → w2.heap[i]? = Y.drew.heap[i]?) → w2.cell? ⟨b, 2, none⟩ = some (.slice (some ⟨g, o, none⟩) k c) ∧ w2.frozen? ⟨b, 2, none⟩ = false ∧ w2.cell? ⟨b, 0, none⟩ = some (.int .i64 n) ∧ w2.cell? ⟨b, 1, none⟩ = some (.int .i64 x) ∧ w2.frozen? ⟨b, 1, none⟩ = false ∧
            w2.cell? ⟨wr.heap.size, 0, none⟩ = some (.int .i64 lt) ∧ w2.cell? ⟨wr.heap.size, 1, none⟩ = some (.string ltx) := fun w2 hw => by
          have e : w2.heap[b]? = wr.heap[b]? := by rw [hw b (by omega), hXb.block b hbr]
          have hl2 : w2.heap[wr.heap.size]? = some (.cells #[.int .i64 lt, .string ltx] 71 (0, 0)) := by rw [hw _ (by omega)]; exact hXl
          exact ⟨(World.cell?_of_block (a := ⟨b, 2, none⟩) e).trans d2, (World.frozen?_of_block (a := ⟨b, 2, none⟩) e).trans f2r, (World.cell?_of_block (a := ⟨b, 0, none⟩) e).trans d0, (World.cell?_of_block (a := ⟨b, 1, none⟩) e).trans d1, (World.frozen?_of_block (a := ⟨b, 1, none⟩) e).trans f1r, by rw [Joins.cell_of_block hl2]; rfl, by rw [Joins.cell_of_block hl2]; rfl⟩
        have one1 := flat_oneCell q.wait (k0 * 2)
        have one2 : ∀ u ∈ (q.wait.flatMap encLine).drop ((k0 + 1) * 2), u.oneCell' = true := fun u hu => encLine_one q.wait u (List.mem_of_mem_drop hu)
        have HS1 := Lib.hid hs1
        have HS2 := Lib.hid hs2
        have HS3 := Lib.hid hs3
        have HX0 := Lib.hid hX0
        have HX1 := Lib.hid hX1
        have HX2 := Lib.hid hX2
        have HXB := Lib.hid hXb
        have HXZ := Lib.hid hXz
        have HXL := Lib.hid hXl
        have HFL := Lib.hid hfl
        have O1 := Lib.hid one1
        have O2 := Lib.hid one2
        clear hs1 hs2 hs3 hX0 hX1 hX2 hXb hXz hXl hfl one1 one2 hcX
        by_cases hcb : c = k0 + 1
        · have HCB := Lib.hid hcb
          go_wp2_with fail
          rw [← hXd]
          have HXD := Lib.hid hXd
          clear hXd
          have y2 : Y.cell? ⟨b, 2, none⟩ = some (.slice (some ⟨g, o, none⟩) k c) := (HXB.out.cell (p := ⟨b, 2, none⟩) hbr).trans d2
          have m1 : 0 + k0 ≤ maxLen := by unfold maxLen; omega
          have m2 : (0 + k0) * 24 ≤ 140737488355328 := by omega
          have m3 : 0 + k0 + (k - (k0 + 1)) ≤ maxLen := by unfold maxLen; omega
          have m4 : (0 + k0 + (k - (k0 + 1))) * 24 ≤ 140737488355328 := by omega
          have M1 := Lib.hid m1
          have M2 := Lib.hid m2
          have M3 := Lib.hid m3
          have M4 := Lib.hid m4
          have T2 : 0 < 2 := by decide
          clear m1 m2 m3 m4
          have n1 : (0 : Int) ≤ (k0 : Int) + 1 := by omega
          have n2 : ((k0 : Int) + 1).toNat = k0 + 1 := by omega
          have n3 : IntKind.i64.wrap ((k0 : Int) + 1) = (k0 : Int) + 1 := IntWalk.i64_in _ (by omega)
          go_region_law ((first | (refine step_append_any _ rfl (.const (.slice none 0 0)) (.tmp 63) 67 rfl 71 i0 _ 2 24 Tryz.underlying67 hi hz0 hz1 hz2 rfl T2 (.slice none 0 0) 0 [] rfl (Row.nil _ _ _) (some ⟨g, o, none⟩) k0 _ ((q.wait.flatMap encLine).take (k0 * 2)) rfl HS1.out O1.out M1.out M2.out _ rfl ?_; intro v1 w1 hrow1 hg1 hat1; obtain ⟨y3, y4⟩ := HX0.out w1 hg1; have hw1 := hg1.size) | (refine step_append_any _ rfl (.tmp 64) (.tmp 71) 67 rfl 71 i0 _ 2 24 Tryz.underlying67 hi hz0 hz1 hz2 rfl T2 v1 (0 + k0) ([] ++ (q.wait.flatMap encLine).take (k0 * 2)) rfl hrow1 (some ⟨g, o, none⟩) (k - (k0 + 1)) _ ((q.wait.flatMap encLine).drop ((k0 + 1) * 2)) rfl (HS3.out w1 hg1 hcb) O2.out M3.out M4.out _ rfl ?_; intro v2 w2 hrow2 hg2 hat2; obtain ⟨y5, y6, y7, y8, y9, ya, yb⟩ := HX2.out w2 (HX1.out w1 w2 v1 hg1 hat1 hg2); obtain ⟨a2, cc2, hv2, _⟩ := hrow2.form; subst hv2)))
          all_goals
            clear n1 n2 n3
            rw [Nat.zero_add, List.nil_append] at hrow2
            have HROW := Lib.hid hrow2
            have HY := Lib.hid hat1
            have HW1 := Lib.hid hw1
            clear hrow2 hat1 y3 y4 y2 hw1
            go_wp2_with fail
            go_region
            go_wp2_with fail
            go_region
            go_wp2_with fail
            go_ret3
            rw [HPOP.out]
            have hp := HP.out
            have hrow3 := HROW.out
            rw [hp] at hrow3
            obtain ⟨F', p1, p2, p3⟩ := queue_popped (w1 := w1) (w2 := w2) (v2 := .slice a2 (k0 + (q.wait.length - (k0 + 1))) cc2) (m := m) (row1 := v1.ownBlock) HA.out hB HXB.out hkl (by have := HN.out; omega) hg1 hg2
              (fun g' hg' => by rcases HY.out with hy | hy <;> rw [hy] at hg' <;> simp [Value.ownBlock] at hg' <;> simp; omega) hrow3 (fun g' hg' => by
                have hw1 := HW1.out
                have hat2' : (Value.slice a2 (k0 + (q.wait.length - (k0 + 1))) cc2).ownBlock = v1.ownBlock ∨ (Value.slice a2 (k0 + (q.wait.length - (k0 + 1))) cc2).ownBlock = some w1.heap.size := by cases a2 <;> exact hat2
                rcases hat2' with e2 | e2
                · rw [e2] at hg'
                  rcases HY.out with hy | hy <;> rw [hy] at hg' <;> simp [Value.ownBlock] at hg' <;> simp; omega
                · rw [e2] at hg'
                  simp only [Option.some.injEq] at hg'
                  omega)
            rw [← hp] at p1 p3
            exact ⟨rfl, F', p1.drew.drew, p2, p3.drew.drew⟩
        · go_wp2_with fail
          rw [← hXd]
          have HXD := Lib.hid hXd
          clear hXd
          have y2 : Y.cell? ⟨b, 2, none⟩ = some (.slice (some ⟨g, o, none⟩) k c) := (HXB.out.cell (p := ⟨b, 2, none⟩) hbr).trans d2
          have m1 : 0 + k0 ≤ maxLen := by unfold maxLen; omega
          have m2 : (0 + k0) * 24 ≤ 140737488355328 := by omega
          have m3 : 0 + k0 + (k - (k0 + 1)) ≤ maxLen := by unfold maxLen; omega
          have m4 : (0 + k0 + (k - (k0 + 1))) * 24 ≤ 140737488355328 := by omega
          have M1 := Lib.hid m1
          have M2 := Lib.hid m2
          have M3 := Lib.hid m3
          have M4 := Lib.hid m4
          have T2 : 0 < 2 := by decide
          clear m1 m2 m3 m4
          have n1 : (0 : Int) ≤ (k0 : Int) + 1 := by omega
          have n2 : ((k0 : Int) + 1).toNat = k0 + 1 := by omega
          have n3 : IntKind.i64.wrap ((k0 : Int) + 1) = (k0 : Int) + 1 := IntWalk.i64_in _ (by omega)
          go_region_law ((first | (refine step_append_any _ rfl (.const (.slice none 0 0)) (.tmp 63) 67 rfl 71 i0 _ 2 24 Tryz.underlying67 hi hz0 hz1 hz2 rfl T2 (.slice none 0 0) 0 [] rfl (Row.nil _ _ _) (some ⟨g, o, none⟩) k0 _ ((q.wait.flatMap encLine).take (k0 * 2)) rfl HS1.out O1.out M1.out M2.out _ rfl ?_; intro v1 w1 hrow1 hg1 hat1; obtain ⟨y3, y4⟩ := HX0.out w1 hg1; have hw1 := hg1.size) | (refine step_append_any _ rfl (.tmp 64) (.tmp 71) 67 rfl 71 i0 _ 2 24 Tryz.underlying67 hi hz0 hz1 hz2 rfl T2 v1 (0 + k0) ([] ++ (q.wait.flatMap encLine).take (k0 * 2)) rfl hrow1 (some ⟨g, o + (k0 + 1) * 2, none⟩) (k - (k0 + 1)) _ ((q.wait.flatMap encLine).drop ((k0 + 1) * 2)) rfl (HS2.out w1 hg1 hcb) O2.out M3.out M4.out _ rfl ?_; intro v2 w2 hrow2 hg2 hat2; obtain ⟨y5, y6, y7, y8, y9, ya, yb⟩ := HX2.out w2 (HX1.out w1 w2 v1 hg1 hat1 hg2); obtain ⟨a2, cc2, hv2, _⟩ := hrow2.form; subst hv2)))
          all_goals
            clear n1 n2 n3
            rw [Nat.zero_add, List.nil_append] at hrow2
            have HROW := Lib.hid hrow2
            have HY := Lib.hid hat1
            have HW1 := Lib.hid hw1
            clear hrow2 hat1 y3 y4 y2 hw1
            go_wp2_with fail
            go_region
            go_wp2_with fail
            go_region
            go_wp2_with fail
            go_ret3
            rw [HPOP.out]
            have hp := HP.out
            have hrow3 := HROW.out
            rw [hp] at hrow3
            obtain ⟨F', p1, p2, p3⟩ := queue_popped (w1 := w1) (w2 := w2) (v2 := .slice a2 (k0 + (q.wait.length - (k0 + 1))) cc2) (m := m) (row1 := v1.ownBlock) HA.out hB HXB.out hkl (by have := HN.out; omega) hg1 hg2
              (fun g' hg' => by rcases HY.out with hy | hy <;> rw [hy] at hg' <;> simp [Value.ownBlock] at hg' <;> simp; omega) hrow3 (fun g' hg' => by
                have hw1 := HW1.out
                have hat2' : (Value.slice a2 (k0 + (q.wait.length - (k0 + 1))) cc2).ownBlock = v1.ownBlock ∨ (Value.slice a2 (k0 + (q.wait.length - (k0 + 1))) cc2).ownBlock = some w1.heap.size := by cases a2 <;> exact hat2
                rcases hat2' with e2 | e2
                · rw [e2] at hg'
                  rcases HY.out with hy | hy <;> rw [hy] at hg' <;> simp [Value.ownBlock] at hg' <;> simp; omega
                · rw [e2] at hg'
                  simp only [Option.some.injEq] at hg'
                  omega)
            rw [← hp] at p1 p3
            exact ⟨rfl, F', p1.drew.drew, p2, p3.drew.drew⟩
end Go.Proofs.YtabhpbkkjijfjaaGreatDoor
