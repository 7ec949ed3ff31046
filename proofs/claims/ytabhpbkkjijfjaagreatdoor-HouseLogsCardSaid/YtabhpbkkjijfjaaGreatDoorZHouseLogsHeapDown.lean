/-
  container/heap.down over the arena's free numbers.
-/
import Derived.Test.YtabhpbkkjijfjaaGreatDoorZHouseLogsHeapPush
namespace Go.Proofs.YtabhpbkkjijfjaaGreatDoor
set_option maxRecDepth 100000
open Go.RowKit

theorem HeapD.leaf {n : Nat} {l : List Nat} {k : Nat} (h : HeapD n l k) (hk : n ≤ 2 * k + 1) : HeapN n l := h.done fun c x y h0 hc hp => by omega
theorem HeapD.stop {n : Nat} {l : List Nat} {k j x y : Nat} (h : HeapD n l k) (hx : l[k]? = some x) (_hy : l[j]? = some y) (hxy : x ≤ y) (hmin : ∀ d z, 0 < d → d < n → (d - 1) / 2 = k → l[d]? = some z → y ≤ z) : HeapN n l :=
  h.done fun c u v h0 hc hp hu hv => by
    rw [hx] at hu; cases hu
    have := hmin c v h0 hc hp hv
    omega
set_option maxHeartbeats 4000000 in
theorem down_any (b p g o c n : Nat) (xs : List Nat) (w : World) (hc : w.cell? ⟨b, p, none⟩ = some (.slice (some ⟨g, o, none⟩) (n + 1) c)) (hr : Row w 3 1 (.slice (some ⟨g, o, none⟩) (n + 1) c) (n + 1) (xs.map idV)) (hne : g ≠ b) (hl : xs.length = n + 1) (hX : HeapD n xs 0) (hlen : n ≤ 1000000) :
    Calls Tryz.prog 210 #[numsI b p, .int .i64 0, .int .i64 n] w fun e w' => (∃ r : Bool, e = .returned (.bool r)) ∧ ∃ ys : List Nat, ys.Perm xs ∧ HeapN n ys ∧ ys[n]? = xs[n]? ∧ Row w' 3 1 (.slice (some ⟨g, o, none⟩) (n + 1) c) (n + 1) (ys.map idV) ∧ Keeps (fun k => k = g) w w' := by
  have hb := World.block_lt_of_cell? w _ hc
  have HX0 : Aside (HeapD n xs 0) := hX
  have HR0 : Aside (Row w 3 1 (.slice (some ⟨g, o, none⟩) (n + 1) c) (n + 1) (xs.map idV)) := hr
  have HXL := Lib.hid hl
  clear hX hr hl
  unfold numsI
  go_enter Tryz.func210, Tryz.ntmps210
  go_wp2_with fail
  go_loopw [7, 8, 9, 10] (fun iv _ _ _ ws => ∃ (k : Nat) (ys : List Nat), iv = .int .i64 k ∧ (k < n ∨ k = 0) ∧ ys.length = n + 1 ∧ Aside (ys.Perm xs) ∧ Aside (HeapD n ys k) ∧ Aside (ys[n]? = xs[n]?) ∧ Aside (Row ws 3 1 (.slice (some ⟨g, o, none⟩) (n + 1) c) (n + 1) (ys.map idV)) ∧ Keeps (fun k => k = g) w ws) (fun iv _ _ _ _ => n - (intOf iv).toNat)
  case atStart => exact ⟨0, xs, rfl, .inr rfl, HXL.out, List.Perm.refl _, HX0, rfl, HR0, Keeps.refl _ _⟩
  case round =>
    obtain ⟨k, ys, rfl, hk, hyl, HP, HX, HY, HR, hK⟩ := hrel
    have c0 : wr.cell? ⟨b, p, none⟩ = some (.slice (some ⟨g, o, none⟩) (n + 1) c) := (hK.cell hb (fun h => hne h.symm)).trans hc
    have hk1 : k ≤ n := by omega
    by_cases hj1 : n ≤ 2 * k + 1
    · have HF := Lib.hid (HX.out.leaf hj1)
      have t1 : decide (2 * (k : Int) + 1 ≥ (n : Int)) = true := decide_eq_true (by omega)
      have t2 : decide ((n : Int) ≤ 2 * (k : Int) + 1) = true := decide_eq_true (by omega)
      have t3 : decide (n ≤ 2 * k + 1) = true := decide_eq_true hj1
      go_wp2_with fail
      go_ret
      exact ⟨⟨_, rfl⟩, ys, HP.out, HF.out, HY.out, HR.out, hK⟩
    · have t1 : decide (2 * (k : Int) + 1 ≥ (n : Int)) = false := decide_eq_false (by omega)
      have t2 : decide ((n : Int) ≤ 2 * (k : Int) + 1) = false := decide_eq_false (by omega)
      have t3 : decide (n ≤ 2 * k + 1) = false := decide_eq_false hj1
      obtain ⟨j1, hj⟩ : ∃ j1, j1 = 2 * k + 1 := ⟨_, rfl⟩
      have hjI : 2 * (k : Int) + 1 = (j1 : Int) := by omega
      clear hj
      obtain ⟨x, hx⟩ : ∃ x, ys[k]? = some x := ⟨_, List.getElem?_eq_getElem (by omega)⟩
      obtain ⟨y, hy⟩ : ∃ y, ys[j1]? = some y := ⟨_, List.getElem?_eq_getElem (by omega)⟩
      clear t1 t2 t3
      have t1 : decide ((j1 : Int) ≥ (n : Int)) = false := decide_eq_false (by omega)
      have t2 : decide ((n : Int) ≤ (j1 : Int)) = false := decide_eq_false (by omega)
      have t3 : decide (n ≤ j1) = false := decide_eq_false (by omega)
      by_cases hj2 : j1 + 1 < n
      · have u1 : decide ((j1 : Int) + 1 < (n : Int)) = true := decide_eq_true (by omega)
        have u2 : decide (j1 + 1 < n) = true := decide_eq_true hj2
        obtain ⟨j2, hj2e⟩ : ∃ j2, j2 = j1 + 1 := ⟨_, rfl⟩
        have hj2I : (j1 : Int) + 1 = (j2 : Int) := by omega
        have HJ2 := Lib.hid hj2e
        clear hj2e
        have u3 : decide ((j2 : Int) < (n : Int)) = true := decide_eq_true (by omega)
        have u4 : decide (j2 < n) = true := decide_eq_true (by omega)
        obtain ⟨z, hz⟩ : ∃ z, ys[j2]? = some z := ⟨_, List.getElem?_eq_getElem (by omega)⟩
        have hmL := meth_less b p _ wr c0
        have HL2 := Lib.hid (less_any ys j2 j1 z y (some ⟨g, o, none⟩) c wr (by rw [hyl]; exact HR.out) hz hy)
        rw [hyl] at HL2
        go_wp2_with fail
        refine HL2.out.mono ?_
        rintro e w0 ⟨rfl, q1, hw0⟩
        have c0w : w0.cell? ⟨b, p, none⟩ = some (.slice (some ⟨g, o, none⟩) (n + 1) c) := by rw [hw0]; exact c0
        have HRW : Aside (Row w0 3 1 (.slice (some ⟨g, o, none⟩) (n + 1) c) (n + 1) (ys.map idV)) := by show Row _ _ _ _ _ _; rw [hw0]; exact HR.out
        have hKw0 : Keeps (fun k => k = g) w w0 := by rw [hw0]; exact hK.drewN q1
        clear hw0
        by_cases hzy : z < y
        · have tz : decide (z < y) = true := decide_eq_true hzy
          have hmin : ∀ d u, 0 < d → d < n → (d - 1) / 2 = k → ys[d]? = some u → z ≤ u := fun d u h0 h1 h2 h3 => by
            have hd : d = j1 ∨ d = j1 + 1 := by omega
            rcases hd with rfl | rfl
            · rw [hy] at h3; cases h3; omega
            · rw [← HJ2.out, hz] at h3; cases h3; exact Nat.le_refl _
          have hKW := hKw0
          have hmL2 := meth_less b p _ (w0) c0w
          have HLj := Lib.hid (less_any ys j2 k z x (some ⟨g, o, none⟩) c (w0) (by rw [hyl]; exact HRW.out) hz hx)
          rw [hyl] at HLj
          have HXS := Lib.hid (fun h : z < x => HX.out.swap (by omega) (by omega) (by omega) hx hz h hmin)
          have HST := Lib.hid (fun h : x ≤ z => HX.out.stop hx hz h hmin)
          have HPS := Lib.hid ((swap_perm hx hz).trans HP.out)
          have HNS := Lib.hid (((swap_get hx hz n).trans (by rw [if_neg (by omega), if_neg (by omega)])).trans HY.out)
          have HSW := Lib.hid (fun q => swap_any ys k j2 x z g o c ((w0).drewN q) (by rw [hyl]; exact HRW.out) hx hz)
          rw [hyl] at HSW
          have HKW := Lib.hid (show Keeps (fun k => k = g) w (w0) from hKW)
          have hjk : k < j2 := by omega
          have hjn : j2 < n := (by omega)
          go_wp2_with fail
          refine HLj.out.mono ?_
          rintro e w1 ⟨rfl, q2, rfl⟩
          by_cases hlt : z < x
          · have tl : decide (z < x) = true := decide_eq_true hlt
            have hmS := meth_swap b p _ ((w0).drewN q2) c0w
            have hxs := HXS.out hlt
            have HXS2 := Lib.hid hxs
            clear hxs
            go_wp2_with fail
            refine (HSW.out q2).mono ?_
            rintro e w2 ⟨rfl, hr2, hk2⟩
            have HR2 : Aside (Row w2 3 1 (.slice (some ⟨g, o, none⟩) (n + 1) c) (n + 1) (((ys.set k z).set j2 x).map idV)) := hr2
            have HK2 := Lib.hid ((HKW.out.drewN q2).trans hk2 (fun _ _ h => h))
            clear hr2 hk2
            go_wp2_with fail
            refine ⟨⟨j2, (ys.set k z).set j2 x, by go_num, .inl (by omega), by rw [List.length_set, List.length_set, hyl], HPS.out, HXS2.out, HNS.out, HR2.out, HK2.out⟩, by simp [intOf]; omega⟩
          · have tl : decide (z < x) = false := decide_eq_false hlt
            have HF := Lib.hid (HST.out (by omega))
            clear hlt
            go_wp2_with fail
            go_ret
            exact ⟨⟨_, rfl⟩, ys, HP.out, HF.out, HY.out, HRW.out, HKW.out.drewN q2⟩
        · have tz : decide (z < y) = false := decide_eq_false hzy
          have hmin : ∀ d u, 0 < d → d < n → (d - 1) / 2 = k → ys[d]? = some u → y ≤ u := fun d u h0 h1 h2 h3 => by
            have hd : d = j1 ∨ d = j1 + 1 := by omega
            rcases hd with rfl | rfl
            · rw [hy] at h3; cases h3; exact Nat.le_refl _
            · rw [← HJ2.out, hz] at h3; cases h3; omega
          have hKW := hKw0
          have hmL2 := meth_less b p _ (w0) c0w
          have HLj := Lib.hid (less_any ys j1 k y x (some ⟨g, o, none⟩) c (w0) (by rw [hyl]; exact HRW.out) hy hx)
          rw [hyl] at HLj
          have HXS := Lib.hid (fun h : y < x => HX.out.swap (by omega) (by omega) (by omega) hx hy h hmin)
          have HST := Lib.hid (fun h : x ≤ y => HX.out.stop hx hy h hmin)
          have HPS := Lib.hid ((swap_perm hx hy).trans HP.out)
          have HNS := Lib.hid (((swap_get hx hy n).trans (by rw [if_neg (by omega), if_neg (by omega)])).trans HY.out)
          have HSW := Lib.hid (fun q => swap_any ys k j1 x y g o c ((w0).drewN q) (by rw [hyl]; exact HRW.out) hx hy)
          rw [hyl] at HSW
          have HKW := Lib.hid (show Keeps (fun k => k = g) w (w0) from hKW)
          have hjk : k < j1 := by omega
          have hjn : j1 < n := (by omega)
          go_wp2_with fail
          refine HLj.out.mono ?_
          rintro e w1 ⟨rfl, q2, rfl⟩
          by_cases hlt : y < x
          · have tl : decide (y < x) = true := decide_eq_true hlt
            have hmS := meth_swap b p _ ((w0).drewN q2) c0w
            have hxs := HXS.out hlt
            have HXS2 := Lib.hid hxs
            clear hxs
            go_wp2_with fail
            refine (HSW.out q2).mono ?_
            rintro e w2 ⟨rfl, hr2, hk2⟩
            have HR2 : Aside (Row w2 3 1 (.slice (some ⟨g, o, none⟩) (n + 1) c) (n + 1) (((ys.set k y).set j1 x).map idV)) := hr2
            have HK2 := Lib.hid ((HKW.out.drewN q2).trans hk2 (fun _ _ h => h))
            clear hr2 hk2
            go_wp2_with fail
            refine ⟨⟨j1, (ys.set k y).set j1 x, by go_num, .inl (by omega), by rw [List.length_set, List.length_set, hyl], HPS.out, HXS2.out, HNS.out, HR2.out, HK2.out⟩, by simp [intOf]; omega⟩
          · have tl : decide (y < x) = false := decide_eq_false hlt
            have HF := Lib.hid (HST.out (by omega))
            clear hlt
            go_wp2_with fail
            go_ret
            exact ⟨⟨_, rfl⟩, ys, HP.out, HF.out, HY.out, HRW.out, HKW.out.drewN q2⟩
      · have u1 : decide ((j1 : Int) + 1 < (n : Int)) = false := decide_eq_false (by omega)
        have u2 : decide (j1 + 1 < n) = false := decide_eq_false hj2
        have hmin : ∀ d u, 0 < d → d < n → (d - 1) / 2 = k → ys[d]? = some u → y ≤ u := fun d u h0 h1 h2 h3 => by
          have hd : d = j1 ∨ d = j1 + 1 := by omega
          rcases hd with rfl | rfl
          · rw [hy] at h3; cases h3; exact Nat.le_refl _
          · omega
        have hKW := hK
        have hmL2 := meth_less b p _ (wr) c0
        have HLj := Lib.hid (less_any ys j1 k y x (some ⟨g, o, none⟩) c (wr) (by rw [hyl]; exact HR.out) hy hx)
        rw [hyl] at HLj
        have HXS := Lib.hid (fun h : y < x => HX.out.swap (by omega) (by omega) (by omega) hx hy h hmin)
        have HST := Lib.hid (fun h : x ≤ y => HX.out.stop hx hy h hmin)
        have HPS := Lib.hid ((swap_perm hx hy).trans HP.out)
        have HNS := Lib.hid (((swap_get hx hy n).trans (by rw [if_neg (by omega), if_neg (by omega)])).trans HY.out)
        have HSW := Lib.hid (fun q => swap_any ys k j1 x y g o c ((wr).drewN q) (by rw [hyl]; exact HR.out) hx hy)
        rw [hyl] at HSW
        have HKW := Lib.hid (show Keeps (fun k => k = g) w (wr) from hKW)
        have hjk : k < j1 := by omega
        have hjn : j1 < n := (by omega)
        go_wp2_with fail
        refine HLj.out.mono ?_
        rintro e w1 ⟨rfl, q2, rfl⟩
        by_cases hlt : y < x
        · have tl : decide (y < x) = true := decide_eq_true hlt
          have hmS := meth_swap b p _ ((wr).drewN q2) c0
          have hxs := HXS.out hlt
          have HXS2 := Lib.hid hxs
          clear hxs
          go_wp2_with fail
          refine (HSW.out q2).mono ?_
          rintro e w2 ⟨rfl, hr2, hk2⟩
          have HR2 : Aside (Row w2 3 1 (.slice (some ⟨g, o, none⟩) (n + 1) c) (n + 1) (((ys.set k y).set j1 x).map idV)) := hr2
          have HK2 := Lib.hid ((HKW.out.drewN q2).trans hk2 (fun _ _ h => h))
          clear hr2 hk2
          go_wp2_with fail
          refine ⟨⟨j1, (ys.set k y).set j1 x, by go_num, .inl (by omega), by rw [List.length_set, List.length_set, hyl], HPS.out, HXS2.out, HNS.out, HR2.out, HK2.out⟩, by simp [intOf]; omega⟩
        · have tl : decide (y < x) = false := decide_eq_false hlt
          have HF := Lib.hid (HST.out (by omega))
          clear hlt
          go_wp2_with fail
          go_ret
          exact ⟨⟨_, rfl⟩, ys, HP.out, HF.out, HY.out, HR.out, HKW.out.drewN q2⟩
end Go.Proofs.YtabhpbkkjijfjaaGreatDoor
