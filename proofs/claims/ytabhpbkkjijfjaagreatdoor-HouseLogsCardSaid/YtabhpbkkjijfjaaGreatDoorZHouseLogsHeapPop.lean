/-
  container/heap.Pop over the arena's free numbers.
-/
import Derived.Test.YtabhpbkkjijfjaaGreatDoorZHouseLogsHeapDown
namespace Go.Proofs.YtabhpbkkjijfjaaGreatDoor
set_option maxRecDepth 100000
open Go.RowKit

theorem Row.pre {w : World} {e : TypeId} {size n c k : Nat} {a : Option Addr} {xs : List Value} (h : Row w e size (.slice a n c) n xs) (hk : k ≤ n) (hn : 0 < n) : Row w e size (.slice a k c) k (xs.take (k * size)) := by
  rcases h.2 with ⟨h0, h1⟩ | ⟨g, o, cap, cur, hv, hg, hc, hm, hs, ht⟩
  · omega
  · simp only [Value.slice.injEq, true_and] at hv
    obtain ⟨rfl, rfl⟩ := hv
    have hle : k * size ≤ n * size := Nat.mul_le_mul_right _ hk
    refine ⟨by rw [List.length_take, h.1]; omega, .inr ⟨g, o, c, cur, rfl, hg, by omega, hm, hs, ?_⟩⟩
    rw [← ht, List.take_take]
    congr 1
    omega
set_option maxRecDepth 100000 in
set_option maxHeartbeats 1000000 in
theorem npop_any (b p g o c x : Nat) (arr : Array Value) (ty : TypeId) (l : List Nat) (w : World) (h : NumsAt b p arr ty (l ++ [x]) (.slice (some ⟨g, o, none⟩) (l.length + 1) c) w) (hlen : l.length < 1000000) :
    Calls Tryz.prog 237 #[.pointer (some ⟨b, p, none⟩)] w fun e w' => e = .returned (.iface 3 (.int .i64 x)) ∧ NumsAt b p (arr.setIfInBounds p (.slice (some ⟨g, o, none⟩) l.length c)) ty l (.slice (some ⟨g, o, none⟩) l.length c) w' ∧ Keeps (fun k => k = b) w w' := by
  have c0 := h.cell
  have f0 : w.frozen? ⟨b, p, none⟩ = false := Joins.unfrozen_of_block h.own p
  have hl1 : (l ++ [x]).length = l.length + 1 := by rw [List.length_append]; rfl
  have hrow := h.row
  rw [hl1] at hrow
  have hc := hrow.form
  obtain ⟨a, c', hv, hcl, _, _⟩ := hc
  simp only [Value.slice.injEq, true_and] at hv
  obtain ⟨rfl, rfl⟩ := hv
  have e0 : w.cell? ⟨g, o + l.length, none⟩ = some (.int .i64 x) := idRow_at (xs := l ++ [x]) (c := c) (by rw [hl1]; exact hrow) (by rw [List.getElem?_append_right (Nat.le_refl _)]; simp)
  have hpre := hrow.pre (k := l.length) (by omega) (by omega)
  rw [show ((l ++ [x]).map idV).take (l.length * 1) = l.map idV by rw [List.map_append, Nat.mul_one]; exact List.take_left' (by simp)] at hpre
  have hgb : g ≠ b := fun e => h.ne (by rw [e]; rfl)
  have HP := Lib.hid hpre
  have HH := Lib.hid h
  obtain ⟨q, hq⟩ : ∃ q, q = l.length := ⟨_, rfl⟩
  rw [← hq] at c0 e0 hcl hlen ⊢
  have HQ := Lib.hid hq
  clear hpre hrow hl1 h hq
  go_enter Tryz.func237, Tryz.ntmps237
  go_wp2_with fail
  go_ret
  have hp : p < arr.size := (Array.getElem?_eq_some_iff.1 HH.out.at_).1
  refine ⟨rfl, ⟨Joins.block_setCell HH.out.own _, ?_, ?_, fun e => hgb (Option.some.inj e)⟩, Keeps.setCell (p := ⟨b, p, none⟩) (Keeps.refl (fun k => k = b) w) (fun _ => rfl) _⟩
  · rw [Array.getElem?_setIfInBounds, if_pos rfl, if_pos hp]
  · rw [HQ.out]
    exact HP.out.keep fun g' hg' => by
      simp only [Value.ownBlock, Option.some.injEq] at hg'
      subst hg'
      exact Below.heap_setCell _ _ _ _ hgb
theorem list_snoc {l : List Nat} {x n : Nat} (hl : l.length = n + 1) (hx : l[n]? = some x) : l = l.take n ++ [x] := by
  have h1 := List.take_append_drop n l
  have h2 : l.drop n = [x] := by
    have hlt : n < l.length := by omega
    rw [List.drop_eq_getElem_cons hlt, List.drop_of_length_le (by omega)]
    congr 1
    have := List.getElem?_eq_getElem hlt
    rw [hx] at this
    exact (Option.some.inj this).symm
  rw [h2] at h1
  exact h1.symm
theorem HeapN.take {n : Nat} {l : List Nat} (h : HeapN n l) (hl : n ≤ l.length) : HeapN (l.take n).length (l.take n) := by
  have e : (l.take n).length = n := by rw [List.length_take]; omega
  rw [e]
  intro j x y h0 hj hx hy
  rw [List.getElem?_take, if_pos (by omega)] at hx
  rw [List.getElem?_take, if_pos hj] at hy
  exact h j x y h0 hj hx hy
set_option maxHeartbeats 1000000 in
theorem hpop_any (b p : Nat) (arr : Array Value) (ty : TypeId) (l : List Nat) (v : Value) (w : World) (h : NumsAt b p arr ty l v w) (hh : HeapN l.length l) (h0 : 0 < l.length) (hlen : l.length < 1000000) :
    Calls Tryz.prog 208 #[numsI b p] w fun e w' => ∃ (m : Nat) (ys : List Nat) (v' : Value), e = .returned (.iface 3 (.int .i64 m)) ∧ (m :: ys).Perm l ∧ (∀ x ∈ l, m ≤ x) ∧ HeapN ys.length ys ∧ NumsAt b p (arr.setIfInBounds p v') ty ys v' w' ∧ v'.ownBlock = v.ownBlock ∧ Keeps (fun k => k = b ∨ v.ownBlock = some k) w w' := by
  obtain ⟨n, hn⟩ : ∃ n, l.length = n + 1 := ⟨l.length - 1, by omega⟩
  have hr := h.row
  rw [hn] at hr
  obtain ⟨a, c, rfl, hcl, _, ha⟩ := hr.form
  obtain ⟨g, o, rfl, _⟩ := hr.cells (by omega)
  have hgb : g ≠ b := fun e => h.ne (by rw [e]; rfl)
  obtain ⟨x, hx⟩ : ∃ x, l[0]? = some x := ⟨_, List.getElem?_eq_getElem h0⟩
  obtain ⟨y, hy⟩ : ∃ y, l[n]? = some y := ⟨_, List.getElem?_eq_getElem (by omega)⟩
  have hc := h.cell
  have hmL := meth_len b p _ w hc
  have hmS := meth_swap b p _ w hc
  have hsw := swap_any l 0 n x y g o c w (by rw [hn]; exact hr) hx hy
  rw [hn] at hsw
  have hD : HeapD n ((l.set 0 y).set n x) 0 := by
    have := HeapD.pop hh hx (by rw [hn]; exact hy)
    rwa [hn] at this
  have HSW := Lib.hid hsw
  have HD := Lib.hid hD
  have HH := Lib.hid h
  have HNN := Lib.hid hn
  have hn1 : n < 1000000 := by omega
  have hxn : Aside (((l.set 0 y).set n x)[n]? = some x) := by
    show _ = _
    rw [swap_get hx hy, if_pos rfl]
  have hpm : Aside (((l.set 0 y).set n x).Perm l) := swap_perm hx hy
  have hleast : Aside (∀ z ∈ l, x ≤ z) := fun z hz => by
    obtain ⟨i, hi⟩ := List.mem_iff_getElem?.1 hz
    exact hh.least (Nat.le_refl _) i x z (List.getElem?_eq_some_iff.1 hi).1 hx hi
  have hxl : Aside (((l.set 0 y).set n x).length = n + 1) := by show _ = _; rw [List.length_set, List.length_set, hn]
  obtain ⟨L, hL⟩ : ∃ L, L = (l.set 0 y).set n x := ⟨_, rfl⟩
  rw [← hL] at HSW HD hxn hpm hxl
  clear hh h hsw hD hx hy hn hL hr
  unfold numsI
  go_enter Tryz.func208, Tryz.ntmps208
  go_wp2_with fail
  refine (len_any _ _ _ _).mono ?_
  rintro e w1 ⟨rfl, rfl⟩
  go_wp2_with fail
  refine HSW.out.mono ?_
  rintro e w2 ⟨rfl, hr2, hk2⟩
  have hN2 : NumsAt b p arr ty L (.slice (some ⟨g, o, none⟩) (n + 1) c) w2 := HH.out.sorted hk2 hgb hpm.out.length_eq (by rw [HNN.out]; exact hr2)
  have hc2 := hN2.cell
  have HDN := Lib.hid (down_any b p g o c n L w2 hc2 hr2 hgb hxl.out HD.out (by omega))
  unfold numsI at HDN
  have HN2 := Lib.hid hN2
  have HK2 := Lib.hid hk2
  clear hN2 hc2 hk2 hr2 hmL hmS hc
  go_wp2_with fail
  refine HDN.out.mono ?_
  rintro e w3 ⟨⟨r, rfl⟩, ys, hp3, hh3, hy3, hr3, hk3⟩
  have hyl : ys.length = n + 1 := by rw [hp3.length_eq]; exact hxl.out
  have hN3 : NumsAt b p arr ty ys (.slice (some ⟨g, o, none⟩) (n + 1) c) w3 := HN2.out.sorted hk3 hgb hp3.length_eq (by rw [hxl.out]; exact hr3)
  have hys : ys = ys.take n ++ [x] := list_snoc hyl (hy3.trans hxn.out)
  have htl : (ys.take n).length = n := by rw [List.length_take]; omega
  have hN4 : NumsAt b p arr ty (ys.take n ++ [x]) (.slice (some ⟨g, o, none⟩) ((ys.take n).length + 1) c) w3 := by
    rw [← hys, htl]; exact hN3
  have HPP := Lib.hid (npop_any b p g o c x arr ty (ys.take n) w3 hN4 (by omega))
  have hmP := meth_pop b p w3
  have HF := Lib.hid (show (x :: ys.take n).Perm l from ((List.perm_append_singleton x (ys.take n)).symm.trans (by rw [← hys]; exact hp3)).trans hpm.out)
  have HH3 := Lib.hid (HeapN.take hh3 (by omega))
  have HK3 := Lib.hid (HK2.out.trans hk3 (fun _ _ h => h))
  clear hp3 hh3 hy3 hr3 hk3 hN3 hys hN4 hyl htl
  go_wp2_with fail
  refine HPP.out.mono ?_
  rintro e w4 ⟨rfl, hN5, hk5⟩
  have HN5 := Lib.hid hN5
  have HK5 := Lib.hid hk5
  clear hN5 hk5
  go_wp2_with fail
  go_ret
  refine ⟨x, ys.take n, _, rfl, HF.out, hleast.out, HH3.out, HN5.out, rfl, (HK3.out.mono fun i _ e => .inr (by rw [e]; rfl)).trans HK5.out fun i _ e => .inl e⟩
end Go.Proofs.YtabhpbkkjijfjaaGreatDoor
