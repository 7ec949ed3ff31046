/-
  Cells in order: plane's order, slices.SortFunc by the shelf's contract, slices.Clone, Compact and Clip walked.
-/
import Derived.Test.YtdmamecfmfhlmaaDoorHeld
import Derived.Test.YtdmamecfmfhlmaaDoorPutMath
import Derived.Shelf.SlSortCmp.NoneTotal
namespace Go.Proofs.YtdmamecfmfhlmaaDoor
set_option maxRecDepth 100000
open Go.RowKit Go.Shelf Go.Sort
def lsf_ren : Go.Shelf.Ren := ⟨fun | 6 => 65 | 15 => 106 | 14 => 105 | 28 => 137 | 29 => 121 | 20 => 129 | 21 => 130 | 22 => 131 | 23 => 132 | 24 => 133 | 25 => 134 | 26 => 135 | 27 => 136 | 46 => 149 | 47 => 150 | 48 => 151 | 49 => 152 | 50 => 153 | 57 => 167 | n => n, fun | 22 => 31 | 24 => 76 | 25 => 107 | 3 => 3 | 39 => 93 | 0 => 0 | 53 => 134 | 55 => 54 | 4 => 4 | 46 => 160 | 45 => 159 | 50 => 90 | 5 => 5 | 9 => 9 | 66 => 173 | 70 => 176 | 76 => 189 | 77 => 190 | n => n, fun | n => n⟩
theorem lsf : Go.Proofs.SlLaysF0.n6 Tryd.prog lsf_ren := {
  mixed := by kernel_rfl
  f6 := ⟨Tryd.f65.name, by decide, Tryd.func65.trans (congrArg some (by kernel_rfl))⟩
  f14 := ⟨Tryd.f105.name, by decide, Tryd.func105.trans (congrArg some (by kernel_rfl))⟩
  f15 := Tryd.func106.trans (congrArg some (by kernel_rfl))
  f20 := ⟨Tryd.f129.name, by decide, Tryd.func129.trans (congrArg some (by kernel_rfl))⟩
  f21 := ⟨Tryd.f130.name, by decide, Tryd.func130.trans (congrArg some (by kernel_rfl))⟩
  f22 := ⟨Tryd.f131.name, by decide, Tryd.func131.trans (congrArg some (by kernel_rfl))⟩
  f23 := ⟨Tryd.f132.name, by decide, Tryd.func132.trans (congrArg some (by kernel_rfl))⟩
  f24 := ⟨Tryd.f133.name, by decide, Tryd.func133.trans (congrArg some (by kernel_rfl))⟩
  f25 := ⟨Tryd.f134.name, by decide, Tryd.func134.trans (congrArg some (by kernel_rfl))⟩
  f26 := ⟨Tryd.f135.name, by decide, Tryd.func135.trans (congrArg some (by kernel_rfl))⟩
  f27 := ⟨Tryd.f136.name, by decide, Tryd.func136.trans (congrArg some (by kernel_rfl))⟩
  f28 := Tryd.func137.trans (congrArg some (by kernel_rfl))
  f29 := Tryd.func121.trans (congrArg some (by kernel_rfl))
  f46 := ⟨Tryd.f149.name, by decide, Tryd.func149.trans (congrArg some (by kernel_rfl))⟩
  f47 := Tryd.func150.trans (congrArg some (by kernel_rfl))
  f48 := Tryd.func151.trans (congrArg some (by kernel_rfl))
  f49 := ⟨Tryd.f152.name, by decide, Tryd.func152.trans (congrArg some (by kernel_rfl))⟩
  f50 := ⟨Tryd.f153.name, by decide, Tryd.func153.trans (congrArg some (by kernel_rfl))⟩
  f57 := ⟨Tryd.f167.name, by decide, Tryd.func167.trans (congrArg some (by kernel_rfl))⟩
  t0 := Tryd.underlying0
  a0 := Tryd.isAgg0
  z0 := Tryd.sizeOf0
  v0 := Tryd.zeroValue0
  t3 := Tryd.underlying3
  a3 := Tryd.isAgg3
  z3 := Tryd.sizeOf3
  v3 := Tryd.zeroValue3
  t4 := Tryd.underlying4
  a4 := Tryd.isAgg4
  z4 := Tryd.sizeOf4
  v4 := Tryd.zeroValue4
  t5 := Tryd.underlying5
  a5 := Tryd.isAgg5
  z5 := Tryd.sizeOf5
  v5 := Tryd.zeroValue5
  t9 := Tryd.underlying9
  a9 := Tryd.isAgg9
  z9 := Tryd.sizeOf9
  v9 := Tryd.zeroValue9
  t22 := Tryd.underlying31
  a22 := Tryd.isAgg31
  z22 := Tryd.sizeOf31
  v22 := Tryd.zeroValue31
  t25 := Tryd.underlying107
  a25 := Tryd.isAgg107
  z25 := Tryd.sizeOf107
  v25 := Tryd.zeroValue107
  t39 := Tryd.underlying93
  a39 := Tryd.isAgg93
  z39 := Tryd.sizeOf93
  v39 := Tryd.zeroValue93
  t45 := Tryd.underlying159
  a45 := Tryd.isAgg159
  z45 := Tryd.sizeOf159
  v45 := Tryd.zeroValue159
  t46 := Tryd.underlying160
  a46 := Tryd.isAgg160
  z46 := Tryd.sizeOf160
  v46 := Tryd.zeroValue160
  t50 := Tryd.underlying90
  a50 := Tryd.isAgg90
  z50 := Tryd.sizeOf90
  v50 := Tryd.zeroValue90
  t53 := Tryd.underlying134
  a53 := Tryd.isAgg134
  z53 := Tryd.sizeOf134
  v53 := Tryd.zeroValue134
  t55 := Tryd.underlying54
  a55 := Tryd.isAgg54
  z55 := Tryd.sizeOf54
  v55 := Tryd.zeroValue54
  t66 := Tryd.underlying173
  a66 := Tryd.isAgg173
  z66 := Tryd.sizeOf173
  v66 := Tryd.zeroValue173
  t70 := Tryd.underlying176
  a70 := Tryd.isAgg176
  z70 := Tryd.sizeOf176
  v70 := Tryd.zeroValue176
  t76 := Tryd.underlying189
  a76 := Tryd.isAgg189
  z76 := Tryd.sizeOf189
  v76 := Tryd.zeroValue189
  t77 := Tryd.underlying190
  a77 := Tryd.isAgg190
  z77 := Tryd.sizeOf190
  v77 := Tryd.zeroValue190 }


/-- By row, then by column, as a number. -/
def ordI (x y : Int × Int) : Int := if Lib.compareInt x.2 y.2 ≠ 0 then Lib.compareInt x.2 y.2 else Lib.compareInt x.1 y.1
theorem ordI_lt (x y : Int × Int) : ltOf ordI x y = cellLt x y := by
  unfold ltOf ordI cellLt Lib.compareInt
  by_cases h1 : x.2 < y.2
  · simp [h1]
  · by_cases h2 : y.2 < x.2
    · have h3 : ¬ x.2 = y.2 := by omega
      simp [h1, h2, h3]
    · have h3 : x.2 = y.2 := by omega
      by_cases h4 : x.1 < y.1
      · simp [h3, h4]
      · by_cases h5 : y.1 < x.1 <;> simp [h3, h4, h5]
theorem ordI_swo : SWO (ltOf ordI) where
  irrefl x := by rw [ordI_lt]; exact cellLt_irrefl x
  trans x y z h1 h2 := by rw [ordI_lt] at *; exact cellLt_trans h1 h2
  ntrans x y z h1 h2 := by
    rw [ordI_lt] at *
    rw [Bool.eq_false_iff, Ne, cellLt_iff] at *
    omega
theorem ordI_tot (x y : Int × Int) (h1 : ltOf ordI x y = false) (h2 : ltOf ordI y x = false) : x = y := by
  rw [ordI_lt] at *
  rcases cellLt_total x y with h | h | h
  · rw [h] at h1; cases h1
  · exact h
  · rw [h] at h2; cases h2

theorem isNaN_int (x : Int) (w : World) : Calls Tryd.prog 138 #[.int .i64 x] w fun e w' => e = .returned (.bool false) ∧ w = w' := by
  go_enter Tryd.func138, Tryd.ntmps138
  go_wp2_with fail
  go_ret
  exact ⟨by simp, rfl⟩
theorem compare_int (x y : Int) (w : World) : Calls Tryd.prog 108 #[.int .i64 x, .int .i64 y] w fun e w' => e = .returned (.int .i64 (Lib.compareInt x y)) ∧ w = w' := by
  go_enter Tryd.func108, Tryd.ntmps108
  go_wp2_with ((go_at_call 138; refine (isNaN_int _ _).mono ?_; rintro e w3 ⟨rfl, rfl⟩))
  all_goals (go_ret; refine ⟨?_, rfl⟩; unfold Lib.compareInt; (repeat' split) <;> first | rfl | (exfalso; omega))
def orF (x y : Int) : Int := if x ≠ 0 then x else y
set_option maxHeartbeats 1000000 in
/-- cmp.Or of two numbers in an own block. -/
theorem or_int (x y : Int) (g : Nat) (w : World) (hg : w.heap[g]? = some (.cells #[.int .i64 x, .int .i64 y] 3 (0, 0))) :
    Calls Tryd.prog 107 #[.slice (some ⟨g, 0, none⟩) 2 2] w fun e w' => e = .returned (.int .i64 (orF x y)) ∧ w = w' := by
  have c0 : w.cell? ⟨g, 0, none⟩ = some (.int .i64 x) := Joins.cell_of_block hg 0
  have c1 : w.cell? ⟨g, 1, none⟩ = some (.int .i64 y) := Joins.cell_of_block hg 1
  clear hg
  go_enter Tryd.func107, Tryd.ntmps107
  go_wp2_with fail
  go_loopw [8] (fun i wr => ∃ k : Nat, i = .int .i64 k ∧ (k = 0 ∨ (k = 1 ∧ x = 0) ∨ (k = 2 ∧ x = 0 ∧ y = 0)) ∧ w = wr) (fun i _ => 2 - (intOf i).toNat)
  case atStart => exact ⟨0, rfl, .inl rfl, rfl⟩
  case round =>
    obtain ⟨k, rfl, hk, rfl⟩ := hrel
    rcases hk with rfl | ⟨rfl, hx⟩ | ⟨rfl, hx, hy⟩
    · by_cases hx : x = 0
      · go_wp2_with fail
        exact ⟨⟨1, rfl, .inr (.inl ⟨rfl, hx⟩), trivial⟩, by simp [intOf]⟩
      · go_wp2_with fail
        go_ret
        exact ⟨by simp [orF, hx], rfl⟩
    · by_cases hy : y = 0
      · go_wp2_with fail
        exact ⟨⟨2, rfl, .inr (.inr ⟨rfl, hx, hy⟩), trivial⟩, by simp [intOf]⟩
      · go_wp2_with fail
        go_ret
        exact ⟨by simp [orF, hx], rfl⟩
    · go_wp2_with fail
      go_ret
      exact ⟨by simp [orF, hx, hy], rfl⟩
theorem three_grow (W : World) (a b c : Obj) : ∃ q os', (((W.alloc a).alloc b).alloc c).drew = grow (W.drewN q) os' :=
  ⟨1, #[a, b, c], by
    simp only [World.alloc, World.drew, World.drewN, grow]
    congr 1⟩
set_option maxHeartbeats 800000 in
theorem order_any (x y : Int × Int) (W : World) : Calls Tryd.prog 66 #[.agg #[.int .i64 x.1, .int .i64 x.2], .agg #[.int .i64 y.1, .int .i64 y.2]] W fun e w' => e = .returned (.int .i64 (ordI x y)) ∧ ∃ q os', w' = grow (W.drewN q) os' := by
  obtain ⟨x1, x2⟩ := x
  obtain ⟨y1, y2⟩ := y
  obtain ⟨r, hr⟩ : ∃ r, r = Lib.compareInt x2 y2 := ⟨_, rfl⟩
  obtain ⟨s, hs⟩ : ∃ s, s = Lib.compareInt x1 y1 := ⟨_, rfl⟩
  have c1 := fun W => compare_int x2 y2 W
  have c2 := fun W => compare_int x1 y1 W
  have ho : ordI (x1, x2) (y1, y2) = orF r s := by rw [hr, hs]; rfl
  rw [← hr] at c1
  rw [← hs] at c2
  have HO := Lib.hid ho
  have H1 := Lib.hid c1
  have H2 := Lib.hid c2
  clear ho c1 c2 hr hs
  go_enter Tryd.func66, Tryd.ntmps66
  go_wp2_with fail
  obtain ⟨X, hX⟩ : ∃ X, X = (W.alloc (.cells #[.int .i64 x1, .int .i64 x2] 76)).alloc (.cells #[.int .i64 y1, .int .i64 y2] 76) := ⟨_, rfl⟩
  rw [← hX]
  have a0 : X.cell? ⟨W.heap.size, 0, none⟩ = some (.int .i64 x1) := by rw [hX]; simp
  have a1 : X.cell? ⟨W.heap.size, 1, none⟩ = some (.int .i64 x2) := by rw [hX]; simp
  have b0 : X.cell? ⟨W.heap.size + 1, 0, none⟩ = some (.int .i64 y1) := by rw [hX]; simp
  have b1 : X.cell? ⟨W.heap.size + 1, 1, none⟩ = some (.int .i64 y2) := by rw [hX]; simp
  have hX0 := Lib.hid hX
  clear hX
  have H0 := Lib.hid (show X.drew.cell? ⟨W.heap.size, 0, none⟩ = some (.int .i64 x1) ∧ X.drew.cell? ⟨W.heap.size, 1, none⟩ = some (.int .i64 x2) ∧ X.drew.cell? ⟨W.heap.size + 1, 0, none⟩ = some (.int .i64 y1) ∧ X.drew.cell? ⟨W.heap.size + 1, 1, none⟩ = some (.int .i64 y2) from ⟨a0, a1, b0, b1⟩)
  have HA := Lib.hid (show ∀ o, (X.drew.alloc o).cell? ⟨W.heap.size, 0, none⟩ = some (.int .i64 x1) ∧ (X.drew.alloc o).cell? ⟨W.heap.size, 1, none⟩ = some (.int .i64 x2) ∧ (X.drew.alloc o).cell? ⟨W.heap.size + 1, 0, none⟩ = some (.int .i64 y1) ∧ (X.drew.alloc o).cell? ⟨W.heap.size + 1, 1, none⟩ = some (.int .i64 y2) from fun o => ⟨Lib.cell?_alloc_some o a0, Lib.cell?_alloc_some o a1, Lib.cell?_alloc_some o b0, Lib.cell?_alloc_some o b1⟩)
  have HOR := Lib.hid (fun a b : Int => or_int a b X.heap.size (X.alloc (.cells #[.int .i64 a, .int .i64 b] 3)).drew (blk_last X _ rfl))
  clear a0 a1 b0 b1
  go_region_held3 (fun w' => w'.cell? ⟨W.heap.size, 0, none⟩ = some (.int .i64 x1) ∧ w'.cell? ⟨W.heap.size, 1, none⟩ = some (.int .i64 x2) ∧ w'.cell? ⟨W.heap.size + 1, 0, none⟩ = some (.int .i64 y1) ∧ w'.cell? ⟨W.heap.size + 1, 1, none⟩ = some (.int .i64 y2)) (first | with_reducible exact H0.out | exact H0.out | exact HA.out _) (first | (go_at_call 108; with_reducible refine (H1.out _).mono ?_; rintro e w3 ⟨rfl, rfl⟩) | (go_at_call 108; with_reducible refine (H2.out _).mono ?_; rintro e w3 ⟨rfl, rfl⟩) | (go_at_call 107; with_reducible refine (HOR.out _ _).mono ?_; rintro e w3 ⟨rfl, rfl⟩))
  go_wp2_with fail
  go_ret
  refine ⟨by rw [HO.out]; rfl, ?_⟩
  rw [hX0.out]
  exact three_grow W _ _ _
end Go.Proofs.YtdmamecfmfhlmaaDoor
