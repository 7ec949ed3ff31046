/-
  container/heap.Push over the arena's free numbers.
-/
import Derived.Test.YtabhpbkkjijfjaaGreatDoorZHouseLogs22
namespace Go.Proofs.YtabhpbkkjijfjaaGreatDoor
set_option maxRecDepth 100000
open Go.RowKit

theorem infoNum : (Tryz.prog.info? 3).map (fun i => (i.zero, i.size, i.bytes)) = some (some (.int .i64 0), 1, 8) := by kernel_rfl
/-- Numbers in cell p of block b. -/
structure NumsAt (b p : Nat) (arr : Array Value) (ty : TypeId) (l : List Nat) (v : Value) (w : World) : Prop where
  own : w.heap[b]? = some (.cells arr ty (0, 0))
  at_ : arr[p]? = some v
  row : Row w 3 1 v l.length (l.map idV)
  ne : v.ownBlock ≠ some b
theorem NumsAt.cell {b p : Nat} {arr : Array Value} {ty : TypeId} {l : List Nat} {v : Value} {w : World} (h : NumsAt b p arr ty l v w) : w.cell? ⟨b, p, none⟩ = some v := by rw [Joins.cell_of_block h.own]; exact h.at_
set_option maxRecDepth 100000 in
set_option maxHeartbeats 1000000 in
theorem npush_any (b p : Nat) (arr : Array Value) (ty : TypeId) (l : List Nat) (v : Value) (x : Nat) (w : World) (h : NumsAt b p arr ty l v w) (hlen : l.length < 1000000) :
    Calls Tryz.prog 238 #[.pointer (some ⟨b, p, none⟩), .iface 3 (.int .i64 x)] w fun e w' => e = .returned (.tuple #[]) ∧ ∃ g o c, NumsAt b p (arr.setIfInBounds p (.slice (some ⟨g, o, none⟩) (l.length + 1) c)) ty (l ++ [x]) (.slice (some ⟨g, o, none⟩) (l.length + 1) c) w' ∧ (v.ownBlock = some g ∨ w.heap.size ≤ g) ∧ Keeps (fun k => k = b ∨ v.ownBlock = some k) w w' := by
  obtain ⟨i0, hi, hz0, hz1, hz2⟩ := info_parts infoNum
  have c0 := h.cell
  obtain ⟨a, c, rfl, hcl, _, _⟩ := h.row.form
  have hbl := lt_of_block h.own
  obtain ⟨q, hq⟩ : ∃ q, q = l.length := ⟨_, rfl⟩
  have hr := h.row
  rw [← hq] at hr c0 hlen
  have HR0 := Lib.hid h.row
  have hr0 : Row (w.drew.alloc (.cells #[.int .i64 x] 3)) 3 1 (.slice a q c) q (l.map idV) := hr.keep fun g hg => Below.heap_alloc w.drew _ g (hr.lt g hg)
  have hbne : some b ≠ (Value.slice a q c).ownBlock := fun e => h.ne (by rw [← hq]; exact e.symm)
  have H1 := Lib.hid hr0
  have H3 := Lib.hid hbne
  have HH := Lib.hid h
  have HQ := Lib.hid hq
  have hwl : ∀ g, (Value.slice a q c).ownBlock = some g → g < w.heap.size := fun g hg => hr.lt g hg
  have HWL := Lib.hid hwl
  rw [← hq]
  clear hr0 hbne h hr hq hwl hcl
  have hta : (Instr.typeAssert (.iface 3 (.int .i64 x)) 20 3 false).run Tryz.prog w.drew = .ok (.int .i64 x) w.drew := by kernel_rfl
  go_enter Tryz.func238, Tryz.ntmps238
  go_wp2_with fail
  go_region_law ((refine step_append_row _ rfl (.tmp 7) (.tmp 10) 82 rfl 3 i0 _ 1 8 Tryz.underlying82 hi hz0 hz1 hz2 rfl (by omega) (.slice a q c) q (l.map idV) rfl H1.out ⟨w.heap.size, 0, none⟩ 1 1 [.int .i64 x] rfl rfl (news_alloc w.drew _ _ rfl) (by simp [Value.oneCell']) (by omega) (by unfold maxLen; omega) (by omega) _ rfl ?_; intro g off cap w1 hrow hg hat; have d1 : w1.cell? ⟨b, p, none⟩ = some (.slice a q c) := (hg.cell_far (a := ⟨b, p, none⟩) (by simp; omega) H3.out).trans ((World.cell?_of_block (Below.heap_alloc w.drew _ b hbl)).trans c0); have d2 : w1.frozen? ⟨b, p, none⟩ = false := (hg.frozen_far (a := ⟨b, p, none⟩) (by simp; omega) H3.out).trans ((World.frozen?_of_block (Below.heap_alloc w.drew _ b hbl)).trans (Joins.unfrozen_of_block HH.out.own p))))
  all_goals
    go_wp2_with fail
    go_end0
    have hb1 : w1.heap[b]? = some (.cells arr ty (0, 0)) := by
      rw [hg.block b (by simp; omega) H3.out]; exact (Below.heap_alloc w _ b hbl).trans HH.out.own
    have hge : ∀ o : Obj, g = (w.alloc o).drew.heap.size → w.heap.size ≤ g := fun o e => by
      rw [e]; show w.heap.size ≤ (w.alloc o).heap.size; simp
    have hgb : g ≠ b := fun e => by
      subst e
      rcases hat with hat | hat
      · exact H3.out hat.symm
      · have := hge _ hat
        omega
    refine ⟨rfl, g, off, cap, ⟨Joins.block_setCell hb1 _, ?_, ?_, fun e => hgb (Option.some.inj e)⟩, ?_, ?_⟩
    · have hp : p < arr.size := by
        have := HH.out.at_
        exact (Array.getElem?_eq_some_iff.1 this).1
      rw [Array.getElem?_setIfInBounds, if_pos rfl, if_pos hp]
    · rw [List.length_append, List.map_append, ← HQ.out]
      exact hrow.keep fun g' hg' => by
        simp only [Value.ownBlock, Option.some.injEq] at hg'
        subst hg'
        exact Below.heap_setCell _ _ _ _ hgb
    · rcases hat with hat | hat
      · exact .inl hat
      · exact .inr (hge _ hat)
    · refine Keeps.setCell (p := ⟨b, p, none⟩) ?_ (fun _ => .inl rfl) _
      refine Keeps.grown ((Keeps.refl _ w).alloc (.cells #[.int .i64 x] 3)).drew hg fun g' hg' _ => .inr hg'
theorem len_any (a : Option Addr) (n c : Nat) (w : World) : Calls Tryz.prog 230 #[.slice a n c] w fun e w' => e = .returned (.int .i64 n) ∧ w' = w := by
  go_enter Tryz.func230, Tryz.ntmps230
  go_wp2_with fail
  go_ret
  exact ⟨rfl, rfl⟩
theorem NumsAt.sorted {b p g : Nat} {arr : Array Value} {ty : TypeId} {l ys : List Nat} {v : Value} {w w' : World} (h : NumsAt b p arr ty l v w) (hk : Keeps (fun k => k = g) w w') (hg : g ≠ b) (hl : ys.length = l.length) (hr : Row w' 3 1 v l.length (ys.map idV)) : NumsAt b p arr ty ys v w' :=
  ⟨(hk.block b (lt_of_block h.own) (fun e => hg e.symm)).trans h.own, h.at_, by rw [hl]; exact hr, h.ne⟩
set_option maxHeartbeats 1000000 in
theorem hpush_any (b p : Nat) (arr : Array Value) (ty : TypeId) (l : List Nat) (v : Value) (x : Nat) (w : World) (h : NumsAt b p arr ty l v w) (hh : HeapN l.length l) (hlen : l.length < 999999) :
    Calls Tryz.prog 207 #[numsI b p, .iface 3 (.int .i64 x)] w fun e w' => e = .returned (.tuple #[]) ∧ ∃ g o c, ∃ ys : List Nat, ys.Perm (l ++ [x]) ∧ HeapN ys.length ys ∧ NumsAt b p (arr.setIfInBounds p (.slice (some ⟨g, o, none⟩) (l.length + 1) c)) ty ys (.slice (some ⟨g, o, none⟩) (l.length + 1) c) w' ∧ (v.ownBlock = some g ∨ w.heap.size ≤ g) ∧ Keeps (fun k => k = b ∨ v.ownBlock = some k) w w' := by
  have hmP := meth_push b p w
  have HP := Lib.hid (npush_any b p arr ty l v x w h (by omega))
  have HH := Lib.hid (HeapX.push hh x)
  clear hh h
  unfold numsI
  go_enter Tryz.func207, Tryz.ntmps207
  go_wp2_with fail
  refine HP.out.mono ?_
  rintro e w1 ⟨rfl, g, o, c, hn, hg, hk⟩
  have hgb : g ≠ b := fun e => hn.ne (by rw [e]; rfl)
  have hmL := meth_len b p _ w1 hn.cell
  have hl1 : (l ++ [x]).length = l.length + 1 := by rw [List.length_append]; rfl
  have hrow := hn.row
  rw [hl1] at hrow
  have hup := up_any b p g o c l.length (l ++ [x]) w1 (by rw [hl1]; exact hn.cell) (by rw [hl1]; exact hrow) hgb HH.out (by omega) (by omega)
  rw [hl1] at hup
  have HU := Lib.hid hup
  unfold numsI at HU
  have HN := Lib.hid hn
  have HK := Lib.hid hk
  have HG := Lib.hid hg
  have HL1 := Lib.hid hl1
  clear hn hk hg hrow hup hl1 hmP
  go_wp2_with fail
  refine (len_any _ _ _ _).mono ?_
  rintro e w2 ⟨rfl, rfl⟩
  go_wp2_with fail
  refine HU.out.mono ?_
  rintro e w3 ⟨rfl, ys, hp1, hh1, hr3, hk3⟩
  go_wp2_with fail
  go_end0
  refine ⟨rfl, g, o, c, ys, hp1, hh1, HN.out.sorted hk3 hgb hp1.length_eq (by rw [HL1.out]; exact hr3), HG.out, HK.out.trans hk3 fun i hi e => ?_⟩
  subst e
  rcases HG.out with h | h
  · exact .inr h
  · omega
end Go.Proofs.YtabhpbkkjijfjaaGreatDoor
