/-
  container/heap.down over the arena's free numbers; container/heap.Pop over the arena's free numbers.
-/
import Derived.Test.YtabhpbkkjijfjaaZLeapSteps13
namespace Go.Proofs.Ytabhpbkkjijfjaa
set_option maxRecDepth 100000
open Go.RowKit

theorem HeapD.leaf {n : Nat} {l : List Nat} {k : Nat} (h : HeapD n l k) (hk : n ≤ 2 * k + 1) : HeapN n l := h.done fun c x y h0 hc hp => by omega
theorem HeapD.stop {n : Nat} {l : List Nat} {k j x y : Nat} (h : HeapD n l k) (hx : l[k]? = some x) (_hy : l[j]? = some y) (hxy : x ≤ y) (hmin : ∀ d z, 0 < d → d < n → (d - 1) / 2 = k → l[d]? = some z → y ≤ z) : HeapN n l :=
  h.done fun c u v h0 hc hp hu hv => by
    rw [hx] at hu; cases hu
    have := hmin c v h0 hc hp hv
    omega
set_option maxHeartbeats 4000000 in
theorem down_any (b p g o c n : Nat) (xs : List Nat) (w : World) (hc : w.cell? ⟨b, p, none⟩ = some (.slice (some ⟨g, o, none⟩) (n + 1) c)) (hr : Row w 3 1 (.slice (some ⟨g, o, none⟩) (n + 1) c) (n + 1) (xs.map idV)) (hne : g ≠ b) (hl : xs.length = n + 1) (hX : HeapD n xs 0) (hlen : n ≤ 1000000) :
    Calls Try.prog 87 #[numsI b p, .int .i64 0, .int .i64 n] w fun e w' => (∃ r : Bool, e = .returned (.bool r)) ∧ ∃ ys : List Nat, ys.Perm xs ∧ HeapN n ys ∧ ys[n]? = xs[n]? ∧ Row w' 3 1 (.slice (some ⟨g, o, none⟩) (n + 1) c) (n + 1) (ys.map idV) ∧ Keeps (fun k => k = g) w w' := by
  have hb := World.block_lt_of_cell? w _ hc
  have HX0 : Aside (HeapD n xs 0) := hX
  have HR0 : Aside (Row w 3 1 (.slice (some ⟨g, o, none⟩) (n + 1) c) (n + 1) (xs.map idV)) := hr
  have HXL := Lib.hid hl
  clear hX hr hl
  unfold numsI
  go_enter Try.func87, Try.ntmps87
  go_wp2_with fail
  go_loopw [7, 8, 9, 10] (fun iv _ _ _ ws => ∃ (k : Nat) (ys : List Nat), iv = .int .i64 k ∧ (k < n ∨ k = 0) ∧ ys.length = n + 1 ∧ Aside (ys.Perm xs) ∧ Aside (HeapD n ys k) ∧ Aside (ys[n]? = xs[n]?) ∧ Aside (Row ws 3 1 (.slice (some ⟨g, o, none⟩) (n + 1) c) (n + 1) (ys.map idV)) ∧ Keeps (fun k => k = g) w ws) (fun iv _ _ _ _ => n - (intOf iv).toNat)
  case atStart => exact ⟨0, xs, rfl, .inr rfl, HXL.out, List.Perm.refl _, HX0, rfl, HR0, Keeps.refl _ _⟩
  case round =>
    obtain ⟨k, ys, rfl, hk, hyl, HP, HX, HY, HR, hK⟩ := hrel
    have c0 : wr.cell? ⟨b, p, none⟩ = some (.slice (some ⟨g, o, none⟩) (n + 1) c) := (hK.cell hb (fun h => hne h.symm)).trans hc
    have hk1 : k ≤ n := by omega
    by_cases hj1 : n ≤ 2 * k + 1
    · have HF := Lib.hid (HX.out.leaf hj1)
      have t1 : decide (2 * (k : Int) + 1 ≥ (n : Int)) = true := decide_eq_true (by omega)
      have t2 : decide ((n : Int) ≤ 2 * (k : Int) + 1) = true := decide_eq_true (by omega)
      have t3 : decide (n ≤ 2 * k + 1) = true := decide_eq_true hj1
      go_wp2_with fail
      go_ret
      exact ⟨⟨_, rfl⟩, ys, HP.out, HF.out, HY.out, HR.out, hK⟩
    · have t1 : decide (2 * (k : Int) + 1 ≥ (n : Int)) = false := decide_eq_false (by omega)
      have t2 : decide ((n : Int) ≤ 2 * (k : Int) + 1) = false := decide_eq_false (by omega)
      have t3 : decide (n ≤ 2 * k + 1) = false := decide_eq_false hj1
      obtain ⟨j1, hj⟩ : ∃ j1, j1 = 2 * k + 1 := ⟨_, rfl⟩
      have hjI : 2 * (k : Int) + 1 = (j1 : Int) := by omega
      clear hj
      obtain ⟨x, hx⟩ : ∃ x, ys[k]? = some x := ⟨_, List.getElem?_eq_getElem (by omega)⟩
      obtain ⟨y, hy⟩ : ∃ y, ys[j1]? = some y := ⟨_, List.getElem?_eq_getElem (by omega)⟩
      clear t1 t2 t3
      have t1 : decide ((j1 : Int) ≥ (n : Int)) = false := decide_eq_false (by omega)
      have t2 : decide ((n : Int) ≤ (j1 : Int)) = false := decide_eq_false (by omega)
      have t3 : decide (n ≤ j1) = false := decide_eq_false (by omega)
      by_cases hj2 : j1 + 1 < n
      · have u1 : decide ((j1 : Int) + 1 < (n : Int)) = true := decide_eq_true (by omega)
        have u2 : decide (j1 + 1 < n) = true := decide_eq_true hj2
        obtain ⟨j2, hj2e⟩ : ∃ j2, j2 = j1 + 1 := ⟨_, rfl⟩
        have hj2I : (j1 : Int) + 1 = (j2 : Int) := by omega
        have HJ2 := Lib.hid hj2e
        clear hj2e
        have u3 : decide ((j2 : Int) < (n : Int)) = true := decide_eq_true (by omega)
        have u4 : decide (j2 < n) = true := decide_eq_true (by omega)
        obtain ⟨z, hz⟩ : ∃ z, ys[j2]? = some z := ⟨_, List.getElem?_eq_getElem (by omega)⟩
        have hmL := meth_less b p _ wr c0
        have HL2 := Lib.hid (less_any ys j2 j1 z y (some ⟨g, o, none⟩) c wr (by rw [hyl]; exact HR.out) hz hy)
        rw [hyl] at HL2
        go_wp2_with fail
        refine HL2.out.mono ?_
        rintro e w0 ⟨rfl, q1, hw0⟩
        have c0w : w0.cell? ⟨b, p, none⟩ = some (.slice (some ⟨g, o, none⟩) (n + 1) c) := by rw [hw0]; exact c0
        have HRW : Aside (Row w0 3 1 (.slice (some ⟨g, o, none⟩) (n + 1) c) (n + 1) (ys.map idV)) := by show Row _ _ _ _ _ _; rw [hw0]; exact HR.out
        have hKw0 : Keeps (fun k => k = g) w w0 := by rw [hw0]; exact hK.drewN q1
        clear hw0
        by_cases hzy : z < y
        · have tz : decide (z < y) = true := decide_eq_true hzy
          have hmin : ∀ d u, 0 < d → d < n → (d - 1) / 2 = k → ys[d]? = some u → z ≤ u := fun d u h0 h1 h2 h3 => by
            have hd : d = j1 ∨ d = j1 + 1 := by omega
            rcases hd with rfl | rfl
            · rw [hy] at h3; cases h3; omega
            · rw [← HJ2.out, hz] at h3; cases h3; exact Nat.le_refl _
          have hKW := hKw0
          have hmL2 := meth_less b p _ (w0) c0w
          have HLj := Lib.hid (less_any ys j2 k z x (some ⟨g, o, none⟩) c (w0) (by rw [hyl]; exact HRW.out) hz hx)
          rw [hyl] at HLj
          have HXS := Lib.hid (fun h : z < x => HX.out.swap (by omega) (by omega) (by omega) hx hz h hmin)
          have HST := Lib.hid (fun h : x ≤ z => HX.out.stop hx hz h hmin)
          have HPS := Lib.hid ((swap_perm hx hz).trans HP.out)
          have HNS := Lib.hid (((swap_get hx hz n).trans (by rw [if_neg (by omega), if_neg (by omega)])).trans HY.out)
          have HSW := Lib.hid (fun q => swap_any ys k j2 x z g o c ((w0).drewN q) (by rw [hyl]; exact HRW.out) hx hz)
          rw [hyl] at HSW
          have HKW := Lib.hid (show Keeps (fun k => k = g) w (w0) from hKW)
          have hjk : k < j2 := by omega
          have hjn : j2 < n := (by omega)
          go_wp2_with fail
          refine HLj.out.mono ?_
          rintro e w1 ⟨rfl, q2, rfl⟩
          by_cases hlt : z < x
          · have tl : decide (z < x) = true := decide_eq_true hlt
            have hmS := meth_swap b p _ ((w0).drewN q2) c0w
            have hxs := HXS.out hlt
            have HXS2 := Lib.hid hxs
            clear hxs
            go_wp2_with fail
            refine (HSW.out q2).mono ?_
            rintro e w2 ⟨rfl, hr2, hk2⟩
            have HR2 : Aside (Row w2 3 1 (.slice (some ⟨g, o, none⟩) (n + 1) c) (n + 1) (((ys.set k z).set j2 x).map idV)) := hr2
            have HK2 := Lib.hid ((HKW.out.drewN q2).trans hk2 (fun _ _ h => h))
            clear hr2 hk2
            go_wp2_with fail
            refine ⟨⟨j2, (ys.set k z).set j2 x, by go_num, .inl (by omega), by rw [List.length_set, List.length_set, hyl], HPS.out, HXS2.out, HNS.out, HR2.out, HK2.out⟩, by simp [intOf]; omega⟩
          · have tl : decide (z < x) = false := decide_eq_false hlt
            have HF := Lib.hid (HST.out (by omega))
            clear hlt
            go_wp2_with fail
            go_ret
            exact ⟨⟨_, rfl⟩, ys, HP.out, HF.out, HY.out, HRW.out, HKW.out.drewN q2⟩
        · have tz : decide (z < y) = false := decide_eq_false hzy
          have hmin : ∀ d u, 0 < d → d < n → (d - 1) / 2 = k → ys[d]? = some u → y ≤ u := fun d u h0 h1 h2 h3 => by
            have hd : d = j1 ∨ d = j1 + 1 := by omega
            rcases hd with rfl | rfl
            · rw [hy] at h3; cases h3; exact Nat.le_refl _
            · rw [← HJ2.out, hz] at h3; cases h3; omega
          have hKW := hKw0
          have hmL2 := meth_less b p _ (w0) c0w
          have HLj := Lib.hid (less_any ys j1 k y x (some ⟨g, o, none⟩) c (w0) (by rw [hyl]; exact HRW.out) hy hx)
          rw [hyl] at HLj
          have HXS := Lib.hid (fun h : y < x => HX.out.swap (by omega) (by omega) (by omega) hx hy h hmin)
          have HST := Lib.hid (fun h : x ≤ y => HX.out.stop hx hy h hmin)
          have HPS := Lib.hid ((swap_perm hx hy).trans HP.out)
          have HNS := Lib.hid (((swap_get hx hy n).trans (by rw [if_neg (by omega), if_neg (by omega)])).trans HY.out)
          have HSW := Lib.hid (fun q => swap_any ys k j1 x y g o c ((w0).drewN q) (by rw [hyl]; exact HRW.out) hx hy)
          rw [hyl] at HSW
          have HKW := Lib.hid (show Keeps (fun k => k = g) w (w0) from hKW)
          have hjk : k < j1 := by omega
          have hjn : j1 < n := (by omega)
          go_wp2_with fail
          refine HLj.out.mono ?_
          rintro e w1 ⟨rfl, q2, rfl⟩
          by_cases hlt : y < x
          · have tl : decide (y < x) = true := decide_eq_true hlt
            have hmS := meth_swap b p _ ((w0).drewN q2) c0w
            have hxs := HXS.out hlt
            have HXS2 := Lib.hid hxs
            clear hxs
            go_wp2_with fail
            refine (HSW.out q2).mono ?_
            rintro e w2 ⟨rfl, hr2, hk2⟩
            have HR2 : Aside (Row w2 3 1 (.slice (some ⟨g, o, none⟩) (n + 1) c) (n + 1) (((ys.set k y).set j1 x).map idV)) := hr2
            have HK2 := Lib.hid ((HKW.out.drewN q2).trans hk2 (fun _ _ h => h))
            clear hr2 hk2
            go_wp2_with fail
            refine ⟨⟨j1, (ys.set k y).set j1 x, by go_num, .inl (by omega), by rw [List.length_set, List.length_set, hyl], HPS.out, HXS2.out, HNS.out, HR2.out, HK2.out⟩, by simp [intOf]; omega⟩
          · have tl : decide (y < x) = false := decide_eq_false hlt
            have HF := Lib.hid (HST.out (by omega))
            clear hlt
            go_wp2_with fail
            go_ret
            exact ⟨⟨_, rfl⟩, ys, HP.out, HF.out, HY.out, HRW.out, HKW.out.drewN q2⟩
      · have u1 : decide ((j1 : Int) + 1 < (n : Int)) = false := decide_eq_false (by omega)
        have u2 : decide (j1 + 1 < n) = false := decide_eq_false hj2
        have hmin : ∀ d u, 0 < d → d < n → (d - 1) / 2 = k → ys[d]? = some u → y ≤ u := fun d u h0 h1 h2 h3 => by
          have hd : d = j1 ∨ d = j1 + 1 := by omega
          rcases hd with rfl | rfl
          · rw [hy] at h3; cases h3; exact Nat.le_refl _
          · omega
        have hKW := hK
        have hmL2 := meth_less b p _ (wr) c0
        have HLj := Lib.hid (less_any ys j1 k y x (some ⟨g, o, none⟩) c (wr) (by rw [hyl]; exact HR.out) hy hx)
        rw [hyl] at HLj
        have HXS := Lib.hid (fun h : y < x => HX.out.swap (by omega) (by omega) (by omega) hx hy h hmin)
        have HST := Lib.hid (fun h : x ≤ y => HX.out.stop hx hy h hmin)
        have HPS := Lib.hid ((swap_perm hx hy).trans HP.out)
        have HNS := Lib.hid (((swap_get hx hy n).trans (by rw [if_neg (by omega), if_neg (by omega)])).trans HY.out)
        have HSW := Lib.hid (fun q => swap_any ys k j1 x y g o c ((wr).drewN q) (by rw [hyl]; exact HR.out) hx hy)
        rw [hyl] at HSW
        have HKW := Lib.hid (show Keeps (fun k => k = g) w (wr) from hKW)
        have hjk : k < j1 := by omega
        have hjn : j1 < n := (by omega)
        go_wp2_with fail
        refine HLj.out.mono ?_
        rintro e w1 ⟨rfl, q2, rfl⟩
        by_cases hlt : y < x
        · have tl : decide (y < x) = true := decide_eq_true hlt
          have hmS := meth_swap b p _ ((wr).drewN q2) c0
          have hxs := HXS.out hlt
          have HXS2 := Lib.hid hxs
          clear hxs
          go_wp2_with fail
          refine (HSW.out q2).mono ?_
          rintro e w2 ⟨rfl, hr2, hk2⟩
          have HR2 : Aside (Row w2 3 1 (.slice (some ⟨g, o, none⟩) (n + 1) c) (n + 1) (((ys.set k y).set j1 x).map idV)) := hr2
          have HK2 := Lib.hid ((HKW.out.drewN q2).trans hk2 (fun _ _ h => h))
          clear hr2 hk2
          go_wp2_with fail
          refine ⟨⟨j1, (ys.set k y).set j1 x, by go_num, .inl (by omega), by rw [List.length_set, List.length_set, hyl], HPS.out, HXS2.out, HNS.out, HR2.out, HK2.out⟩, by simp [intOf]; omega⟩
        · have tl : decide (y < x) = false := decide_eq_false hlt
          have HF := Lib.hid (HST.out (by omega))
          clear hlt
          go_wp2_with fail
          go_ret
          exact ⟨⟨_, rfl⟩, ys, HP.out, HF.out, HY.out, HR.out, HKW.out.drewN q2⟩
end Go.Proofs.Ytabhpbkkjijfjaa
namespace Go.Proofs.Ytabhpbkkjijfjaa
set_option maxRecDepth 100000
open Go.RowKit

theorem Row.pre {w : World} {e : TypeId} {size n c k : Nat} {a : Option Addr} {xs : List Value} (h : Row w e size (.slice a n c) n xs) (hk : k ≤ n) (hn : 0 < n) : Row w e size (.slice a k c) k (xs.take (k * size)) := by
  rcases h.2 with ⟨h0, h1⟩ | ⟨g, o, cap, cur, hv, hg, hc, hm, hs, ht⟩
  · omega
  · simp only [Value.slice.injEq, true_and] at hv
    obtain ⟨rfl, rfl⟩ := hv
    have hle : k * size ≤ n * size := Nat.mul_le_mul_right _ hk
    refine ⟨by rw [List.length_take, h.1]; omega, .inr ⟨g, o, c, cur, rfl, hg, by omega, hm, hs, ?_⟩⟩
    rw [← ht, List.take_take]
    congr 1
    omega
set_option maxRecDepth 100000 in
set_option maxHeartbeats 1000000 in
theorem npop_any (b p g o c x : Nat) (arr : Array Value) (ty : TypeId) (l : List Nat) (w : World) (h : NumsAt b p arr ty (l ++ [x]) (.slice (some ⟨g, o, none⟩) (l.length + 1) c) w) (hlen : l.length < 1000000) :
    Calls Try.prog 108 #[.pointer (some ⟨b, p, none⟩)] w fun e w' => e = .returned (.iface 3 (.int .i64 x)) ∧ NumsAt b p (arr.setIfInBounds p (.slice (some ⟨g, o, none⟩) l.length c)) ty l (.slice (some ⟨g, o, none⟩) l.length c) w' ∧ Keeps (fun k => k = b) w w' := by
  have c0 := h.cell
  have f0 : w.frozen? ⟨b, p, none⟩ = false := Joins.unfrozen_of_block h.own p
  have hl1 : (l ++ [x]).length = l.length + 1 := by rw [List.length_append]; rfl
  have hrow := h.row
  rw [hl1] at hrow
  have hc := hrow.form
  obtain ⟨a, c', hv, hcl, _, _⟩ := hc
  simp only [Value.slice.injEq, true_and] at hv
  obtain ⟨rfl, rfl⟩ := hv
  have e0 : w.cell? ⟨g, o + l.length, none⟩ = some (.int .i64 x) := idRow_at (xs := l ++ [x]) (c := c) (by rw [hl1]; exact hrow) (by rw [List.getElem?_append_right (Nat.le_refl _)]; simp)
  have hpre := hrow.pre (k := l.length) (by omega) (by omega)
  rw [show ((l ++ [x]).map idV).take (l.length * 1) = l.map idV by rw [List.map_append, Nat.mul_one]; exact List.take_left' (by simp)] at hpre
  have hgb : g ≠ b := fun e => h.ne (by rw [e]; rfl)
  have HP := Lib.hid hpre
  have HH := Lib.hid h
  obtain ⟨q, hq⟩ : ∃ q, q = l.length := ⟨_, rfl⟩
  rw [← hq] at c0 e0 hcl hlen ⊢
  have HQ := Lib.hid hq
  clear hpre hrow hl1 h hq
  go_enter Try.func108, Try.ntmps108
  go_wp2_with fail
  go_ret
  have hp : p < arr.size := (Array.getElem?_eq_some_iff.1 HH.out.at_).1
  refine ⟨rfl, ⟨Joins.block_setCell HH.out.own _, ?_, ?_, fun e => hgb (Option.some.inj e)⟩, Keeps.setCell (p := ⟨b, p, none⟩) (Keeps.refl (fun k => k = b) w) (fun _ => rfl) _⟩
  · rw [Array.getElem?_setIfInBounds, if_pos rfl, if_pos hp]
  · rw [HQ.out]
    exact HP.out.keep fun g' hg' => by
      simp only [Value.ownBlock, Option.some.injEq] at hg'
      subst hg'
      exact Below.heap_setCell _ _ _ _ hgb
theorem list_snoc {l : List Nat} {x n : Nat} (hl : l.length = n + 1) (hx : l[n]? = some x) : l = l.take n ++ [x] := by
  have h1 := List.take_append_drop n l
  have h2 : l.drop n = [x] := by
    have hlt : n < l.length := by omega
    rw [List.drop_eq_getElem_cons hlt, List.drop_of_length_le (by omega)]
    congr 1
    have := List.getElem?_eq_getElem hlt
    rw [hx] at this
    exact (Option.some.inj this).symm
  rw [h2] at h1
  exact h1.symm
theorem HeapN.take {n : Nat} {l : List Nat} (h : HeapN n l) (hl : n ≤ l.length) : HeapN (l.take n).length (l.take n) := by
  have e : (l.take n).length = n := by rw [List.length_take]; omega
  rw [e]
  intro j x y h0 hj hx hy
  rw [List.getElem?_take, if_pos (by omega)] at hx
  rw [List.getElem?_take, if_pos hj] at hy
  exact h j x y h0 hj hx hy
set_option maxHeartbeats 1000000 in
theorem hpop_any (b p : Nat) (arr : Array Value) (ty : TypeId) (l : List Nat) (v : Value) (w : World) (h : NumsAt b p arr ty l v w) (hh : HeapN l.length l) (h0 : 0 < l.length) (hlen : l.length < 1000000) :
    Calls Try.prog 84 #[numsI b p] w fun e w' => ∃ (m : Nat) (ys : List Nat) (v' : Value), e = .returned (.iface 3 (.int .i64 m)) ∧ (m :: ys).Perm l ∧ (∀ x ∈ l, m ≤ x) ∧ HeapN ys.length ys ∧ NumsAt b p (arr.setIfInBounds p v') ty ys v' w' ∧ v'.ownBlock = v.ownBlock ∧ Keeps (fun k => k = b ∨ v.ownBlock = some k) w w' := by
  obtain ⟨n, hn⟩ : ∃ n, l.length = n + 1 := ⟨l.length - 1, by omega⟩
  have hr := h.row
  rw [hn] at hr
  obtain ⟨a, c, rfl, hcl, _, ha⟩ := hr.form
  obtain ⟨g, o, rfl, _⟩ := hr.cells (by omega)
  have hgb : g ≠ b := fun e => h.ne (by rw [e]; rfl)
  obtain ⟨x, hx⟩ : ∃ x, l[0]? = some x := ⟨_, List.getElem?_eq_getElem h0⟩
  obtain ⟨y, hy⟩ : ∃ y, l[n]? = some y := ⟨_, List.getElem?_eq_getElem (by omega)⟩
  have hc := h.cell
  have hmL := meth_len b p _ w hc
  have hmS := meth_swap b p _ w hc
  have hsw := swap_any l 0 n x y g o c w (by rw [hn]; exact hr) hx hy
  rw [hn] at hsw
  have hD : HeapD n ((l.set 0 y).set n x) 0 := by
    have := HeapD.pop hh hx (by rw [hn]; exact hy)
    rwa [hn] at this
  have HSW := Lib.hid hsw
  have HD := Lib.hid hD
  have HH := Lib.hid h
  have HNN := Lib.hid hn
  have hn1 : n < 1000000 := by omega
  have hxn : Aside (((l.set 0 y).set n x)[n]? = some x) := by
    show _ = _
    rw [swap_get hx hy, if_pos rfl]
  have hpm : Aside (((l.set 0 y).set n x).Perm l) := swap_perm hx hy
  have hleast : Aside (∀ z ∈ l, x ≤ z) := fun z hz => by
    obtain ⟨i, hi⟩ := List.mem_iff_getElem?.1 hz
    exact hh.least (Nat.le_refl _) i x z (List.getElem?_eq_some_iff.1 hi).1 hx hi
  have hxl : Aside (((l.set 0 y).set n x).length = n + 1) := by show _ = _; rw [List.length_set, List.length_set, hn]
  obtain ⟨L, hL⟩ : ∃ L, L = (l.set 0 y).set n x := ⟨_, rfl⟩
  rw [← hL] at HSW HD hxn hpm hxl
  clear hh h hsw hD hx hy hn hL hr
  unfold numsI
  go_enter Try.func84, Try.ntmps84
  go_wp2_with fail
  refine (len_any _ _ _ _).mono ?_
  rintro e w1 ⟨rfl, rfl⟩
  go_wp2_with fail
  refine HSW.out.mono ?_
  rintro e w2 ⟨rfl, hr2, hk2⟩
  have hN2 : NumsAt b p arr ty L (.slice (some ⟨g, o, none⟩) (n + 1) c) w2 := HH.out.sorted hk2 hgb hpm.out.length_eq (by rw [HNN.out]; exact hr2)
  have hc2 := hN2.cell
  have HDN := Lib.hid (down_any b p g o c n L w2 hc2 hr2 hgb hxl.out HD.out (by omega))
  unfold numsI at HDN
  have HN2 := Lib.hid hN2
  have HK2 := Lib.hid hk2
  clear hN2 hc2 hk2 hr2 hmL hmS hc
  go_wp2_with fail
  refine HDN.out.mono ?_
  rintro e w3 ⟨⟨r, rfl⟩, ys, hp3, hh3, hy3, hr3, hk3⟩
  have hyl : ys.length = n + 1 := by rw [hp3.length_eq]; exact hxl.out
  have hN3 : NumsAt b p arr ty ys (.slice (some ⟨g, o, none⟩) (n + 1) c) w3 := HN2.out.sorted hk3 hgb hp3.length_eq (by rw [hxl.out]; exact hr3)
  have hys : ys = ys.take n ++ [x] := list_snoc hyl (hy3.trans hxn.out)
  have htl : (ys.take n).length = n := by rw [List.length_take]; omega
  have hN4 : NumsAt b p arr ty (ys.take n ++ [x]) (.slice (some ⟨g, o, none⟩) ((ys.take n).length + 1) c) w3 := by
    rw [← hys, htl]; exact hN3
  have HPP := Lib.hid (npop_any b p g o c x arr ty (ys.take n) w3 hN4 (by omega))
  have hmP := meth_pop b p w3
  have HF := Lib.hid (show (x :: ys.take n).Perm l from ((List.perm_append_singleton x (ys.take n)).symm.trans (by rw [← hys]; exact hp3)).trans hpm.out)
  have HH3 := Lib.hid (HeapN.take hh3 (by omega))
  have HK3 := Lib.hid (HK2.out.trans hk3 (fun _ _ h => h))
  clear hp3 hh3 hy3 hr3 hk3 hN3 hys hN4 hyl htl
  go_wp2_with fail
  refine HPP.out.mono ?_
  rintro e w4 ⟨rfl, hN5, hk5⟩
  have HN5 := Lib.hid hN5
  have HK5 := Lib.hid hk5
  clear hN5 hk5
  go_wp2_with fail
  go_ret
  refine ⟨x, ys.take n, _, rfl, HF.out, hleast.out, HH3.out, HN5.out, rfl, (HK3.out.mono fun i _ e => .inr (by rw [e]; rfl)).trans HK5.out fun i _ e => .inl e⟩
end Go.Proofs.Ytabhpbkkjijfjaa
