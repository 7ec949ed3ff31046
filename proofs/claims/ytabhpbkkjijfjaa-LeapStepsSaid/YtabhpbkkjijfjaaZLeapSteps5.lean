/-
  Where a cell belongs in a list in order, found by halving; what stands twice taken away: plain lists; Cells in order: plane's order, slices.SortFunc by the shelf's contract, slices.Clone, Compact and Clip walked.
-/
import Derived.Shelf.SlSortCmp.NoneTotal
import Derived.Test.YtabhpbkkjijfjaaZLeapSteps4
namespace Go.Proofs.Ytabhpbkkjijfjaa
set_option maxRecDepth 100000

/-- A list behind p, without what is like the one ahead of it. -/
def ddF (p : Int × Int) : List (Int × Int) → List (Int × Int)
  | [] => []
  | x :: r => if x = p then ddF x r else x :: ddF x r
theorem compF_cons : ∀ (r : List (Int × Int)) (a : Int × Int), compF (a :: r) = a :: ddF a r
  | [], a => by simp [compF, ddF]
  | b :: r, a => by
    rw [compF, compF_cons r b, ddF]
    by_cases h : a = b
    · subst h; simp
    · rw [if_neg h, if_neg (fun e => h e.symm)]
theorem ddF_length : ∀ (r : List (Int × Int)) (p : Int × Int), (ddF p r).length ≤ r.length
  | [], p => by simp [ddF]
  | x :: r, p => by
    have := ddF_length r x
    unfold ddF
    split <;> simp <;> omega
theorem putF_at (c : Int × Int) : ∀ (xs : List (Int × Int)) (lo : Nat), lo ≤ xs.length → (∀ i x, i < lo → xs[i]? = some x → cellLt x c = true) → (∀ i x, lo ≤ i → xs[i]? = some x → cellLt x c = false) →
    putF c xs = if xs[lo]? = some c then xs else xs.take lo ++ c :: xs.drop lo
  | [], lo, h, _, _ => by
    have : lo = 0 := by simpa using h
    subst this; simp [putF]
  | a :: r, 0, _, _, h2 => by
    have := h2 0 a (Nat.le_refl _) rfl
    rw [putF, if_neg (by rw [this]; simp)]
    simp only [List.getElem?_cons_zero, Option.some.injEq, List.take_zero, List.drop_zero, List.nil_append]
  | a :: r, lo + 1, h, h1, h2 => by
    have := h1 0 a (by omega) rfl
    have ih := putF_at c r lo (by simpa using h) (fun i x hi hx => h1 (i + 1) x (by omega) (by simpa using hx)) (fun i x hi hx => h2 (i + 1) x (by omega) (by simpa using hx))
    rw [putF, if_pos this, ih]
    simp only [List.getElem?_cons_succ, List.take_succ_cons, List.drop_succ_cons, List.cons_append]
    split <;> rfl
theorem rising_lt {xs : List (Int × Int)} (h : Rising xs) {i j : Nat} {x y : Int × Int} (hx : xs[i]? = some x) (hy : xs[j]? = some y) (hij : i < j) : cellLt x y = true := by
  obtain ⟨hi, rfl⟩ := List.getElem?_eq_some_iff.1 hx
  obtain ⟨hj, rfl⟩ := List.getElem?_eq_some_iff.1 hy
  exact List.pairwise_iff_getElem.1 h i j hi hj hij
/-- What a halving keeps. -/
structure Halved (xs : List (Int × Int)) (c : Int × Int) (lo hi : Nat) : Prop where
  le : lo ≤ hi
  len : hi ≤ xs.length
  low : ∀ i x, i < lo → xs[i]? = some x → cellLt x c = true
  high : ∀ i x, hi ≤ i → xs[i]? = some x → cellLt x c = false
theorem Halved.start (xs : List (Int × Int)) (c : Int × Int) : Halved xs c 0 xs.length :=
  ⟨Nat.zero_le _, Nat.le_refl _, fun i x h => by omega, fun i x h hx => by rw [List.getElem?_eq_none h] at hx; cases hx⟩
theorem Halved.up {xs : List (Int × Int)} {c m : Int × Int} {lo hi : Nat} (h : Halved xs c lo hi) (hr : Rising xs) (hlt : lo < hi) (hm : xs[(lo + hi) / 2]? = some m) (ha : cellLt m c = true) : Halved xs c ((lo + hi) / 2 + 1) hi :=
  ⟨by omega, h.len, fun i x hi' hx => by
    rcases Nat.lt_or_ge i ((lo + hi) / 2) with h1 | h1
    · exact cellLt_trans (rising_lt hr hx hm h1) ha
    · have : i = (lo + hi) / 2 := by omega
      subst this
      rw [hm] at hx
      cases hx
      exact ha, h.high⟩
theorem Halved.down {xs : List (Int × Int)} {c m : Int × Int} {lo hi : Nat} (h : Halved xs c lo hi) (hr : Rising xs) (hlt : lo < hi) (hm : xs[(lo + hi) / 2]? = some m) (ha : cellLt m c = false) : Halved xs c lo ((lo + hi) / 2) :=
  ⟨by omega, by have := h.len; omega, h.low, fun i x hi' hx => by
    rcases Nat.lt_or_ge ((lo + hi) / 2) i with h1 | h1
    · cases hc : cellLt x c with
      | false => rfl
      | true =>
        have := cellLt_trans (rising_lt hr hm hx h1) hc
        rw [ha] at this
        cases this
    · have : i = (lo + hi) / 2 := by omega
      subst this
      rw [hm] at hx
      cases hx
      exact ha⟩
theorem Halved.found {xs : List (Int × Int)} {c : Int × Int} {lo : Nat} (h : Halved xs c lo lo) : putF c xs = if xs[lo]? = some c then xs else xs.take lo ++ c :: xs.drop lo :=
  putF_at c xs lo h.len h.low h.high
end Go.Proofs.Ytabhpbkkjijfjaa
namespace Go.Proofs.Ytabhpbkkjijfjaa
set_option maxRecDepth 100000
open Go.RowKit Go.Shelf Go.Sort
def lsf_ren : Go.Shelf.Ren := ⟨fun | 6 => 39 | 15 => 57 | 14 => 56 | 28 => 73 | 29 => 74 | 20 => 65 | 21 => 66 | 22 => 67 | 23 => 68 | 24 => 69 | 25 => 70 | 26 => 71 | 27 => 72 | 46 => 78 | 47 => 79 | 48 => 80 | 49 => 81 | 50 => 82 | 57 => 85 | n => n, fun | 22 => 24 | 24 => 39 | 25 => 85 | 3 => 3 | 39 => 44 | 0 => 0 | 53 => 122 | 55 => 93 | 4 => 4 | 46 => 116 | 45 => 115 | 50 => 96 | 5 => 5 | 9 => 9 | 66 => 125 | 70 => 129 | 76 => 134 | 77 => 135 | n => n, fun | n => n⟩
theorem lsf : Go.Proofs.SlLaysF0.n6 Try.prog lsf_ren := {
  mixed := by kernel_rfl
  f6 := ⟨Try.f39.name, by decide, Try.func39.trans (congrArg some (by kernel_rfl))⟩
  f14 := ⟨Try.f56.name, by decide, Try.func56.trans (congrArg some (by kernel_rfl))⟩
  f15 := Try.func57.trans (congrArg some (by kernel_rfl))
  f20 := ⟨Try.f65.name, by decide, Try.func65.trans (congrArg some (by kernel_rfl))⟩
  f21 := ⟨Try.f66.name, by decide, Try.func66.trans (congrArg some (by kernel_rfl))⟩
  f22 := ⟨Try.f67.name, by decide, Try.func67.trans (congrArg some (by kernel_rfl))⟩
  f23 := ⟨Try.f68.name, by decide, Try.func68.trans (congrArg some (by kernel_rfl))⟩
  f24 := ⟨Try.f69.name, by decide, Try.func69.trans (congrArg some (by kernel_rfl))⟩
  f25 := ⟨Try.f70.name, by decide, Try.func70.trans (congrArg some (by kernel_rfl))⟩
  f26 := ⟨Try.f71.name, by decide, Try.func71.trans (congrArg some (by kernel_rfl))⟩
  f27 := ⟨Try.f72.name, by decide, Try.func72.trans (congrArg some (by kernel_rfl))⟩
  f28 := Try.func73.trans (congrArg some (by kernel_rfl))
  f29 := Try.func74.trans (congrArg some (by kernel_rfl))
  f46 := ⟨Try.f78.name, by decide, Try.func78.trans (congrArg some (by kernel_rfl))⟩
  f47 := Try.func79.trans (congrArg some (by kernel_rfl))
  f48 := Try.func80.trans (congrArg some (by kernel_rfl))
  f49 := ⟨Try.f81.name, by decide, Try.func81.trans (congrArg some (by kernel_rfl))⟩
  f50 := ⟨Try.f82.name, by decide, Try.func82.trans (congrArg some (by kernel_rfl))⟩
  f57 := ⟨Try.f85.name, by decide, Try.func85.trans (congrArg some (by kernel_rfl))⟩
  t0 := Try.underlying0
  a0 := Try.isAgg0
  z0 := Try.sizeOf0
  v0 := Try.zeroValue0
  t3 := Try.underlying3
  a3 := Try.isAgg3
  z3 := Try.sizeOf3
  v3 := Try.zeroValue3
  t4 := Try.underlying4
  a4 := Try.isAgg4
  z4 := Try.sizeOf4
  v4 := Try.zeroValue4
  t5 := Try.underlying5
  a5 := Try.isAgg5
  z5 := Try.sizeOf5
  v5 := Try.zeroValue5
  t9 := Try.underlying9
  a9 := Try.isAgg9
  z9 := Try.sizeOf9
  v9 := Try.zeroValue9
  t22 := Try.underlying24
  a22 := Try.isAgg24
  z22 := Try.sizeOf24
  v22 := Try.zeroValue24
  t25 := Try.underlying85
  a25 := Try.isAgg85
  z25 := Try.sizeOf85
  v25 := Try.zeroValue85
  t39 := Try.underlying44
  a39 := Try.isAgg44
  z39 := Try.sizeOf44
  v39 := Try.zeroValue44
  t45 := Try.underlying115
  a45 := Try.isAgg115
  z45 := Try.sizeOf115
  v45 := Try.zeroValue115
  t46 := Try.underlying116
  a46 := Try.isAgg116
  z46 := Try.sizeOf116
  v46 := Try.zeroValue116
  t50 := Try.underlying96
  a50 := Try.isAgg96
  z50 := Try.sizeOf96
  v50 := Try.zeroValue96
  t53 := Try.underlying122
  a53 := Try.isAgg122
  z53 := Try.sizeOf122
  v53 := Try.zeroValue122
  t55 := Try.underlying93
  a55 := Try.isAgg93
  z55 := Try.sizeOf93
  v55 := Try.zeroValue93
  t66 := Try.underlying125
  a66 := Try.isAgg125
  z66 := Try.sizeOf125
  v66 := Try.zeroValue125
  t70 := Try.underlying129
  a70 := Try.isAgg129
  z70 := Try.sizeOf129
  v70 := Try.zeroValue129
  t76 := Try.underlying134
  a76 := Try.isAgg134
  z76 := Try.sizeOf134
  v76 := Try.zeroValue134
  t77 := Try.underlying135
  a77 := Try.isAgg135
  z77 := Try.sizeOf135
  v77 := Try.zeroValue135 }


/-- By row, then by column, as a number. -/
def ordI (x y : Int × Int) : Int := if Lib.compareInt x.2 y.2 ≠ 0 then Lib.compareInt x.2 y.2 else Lib.compareInt x.1 y.1
theorem ordI_lt (x y : Int × Int) : ltOf ordI x y = cellLt x y := by
  unfold ltOf ordI cellLt Lib.compareInt
  by_cases h1 : x.2 < y.2
  · simp [h1]
  · by_cases h2 : y.2 < x.2
    · have h3 : ¬ x.2 = y.2 := by omega
      simp [h1, h2, h3]
    · have h3 : x.2 = y.2 := by omega
      by_cases h4 : x.1 < y.1
      · simp [h3, h4]
      · by_cases h5 : y.1 < x.1 <;> simp [h3, h4, h5]
theorem ordI_swo : SWO (ltOf ordI) where
  irrefl x := by rw [ordI_lt]; exact cellLt_irrefl x
  trans x y z h1 h2 := by rw [ordI_lt] at *; exact cellLt_trans h1 h2
  ntrans x y z h1 h2 := by
    rw [ordI_lt] at *
    rw [Bool.eq_false_iff, Ne, cellLt_iff] at *
    omega
theorem ordI_tot (x y : Int × Int) (h1 : ltOf ordI x y = false) (h2 : ltOf ordI y x = false) : x = y := by
  rw [ordI_lt] at *
  rcases cellLt_total x y with h | h | h
  · rw [h] at h1; cases h1
  · exact h
  · rw [h] at h2; cases h2

theorem isNaN_int (x : Int) (w : World) : Calls Try.prog 75 #[.int .i64 x] w fun e w' => e = .returned (.bool false) ∧ w = w' := by
  go_enter Try.func75, Try.ntmps75
  go_wp2_with fail
  go_ret
  exact ⟨by simp, rfl⟩
theorem compare_int (x y : Int) (w : World) : Calls Try.prog 59 #[.int .i64 x, .int .i64 y] w fun e w' => e = .returned (.int .i64 (Lib.compareInt x y)) ∧ w = w' := by
  go_enter Try.func59, Try.ntmps59
  go_wp2_with ((go_at_call 75; refine (isNaN_int _ _).mono ?_; rintro e w3 ⟨rfl, rfl⟩))
  all_goals (go_ret; refine ⟨?_, rfl⟩; unfold Lib.compareInt; (repeat' split) <;> first | rfl | (exfalso; omega))
def orF (x y : Int) : Int := if x ≠ 0 then x else y
set_option maxHeartbeats 1000000 in
/-- cmp.Or of two numbers in an own block. -/
theorem or_int (x y : Int) (g : Nat) (w : World) (hg : w.heap[g]? = some (.cells #[.int .i64 x, .int .i64 y] 3 (0, 0))) :
    Calls Try.prog 58 #[.slice (some ⟨g, 0, none⟩) 2 2] w fun e w' => e = .returned (.int .i64 (orF x y)) ∧ w = w' := by
  have c0 : w.cell? ⟨g, 0, none⟩ = some (.int .i64 x) := Joins.cell_of_block hg 0
  have c1 : w.cell? ⟨g, 1, none⟩ = some (.int .i64 y) := Joins.cell_of_block hg 1
  clear hg
  go_enter Try.func58, Try.ntmps58
  go_wp2_with fail
  go_loopw [8] (fun i wr => ∃ k : Nat, i = .int .i64 k ∧ (k = 0 ∨ (k = 1 ∧ x = 0) ∨ (k = 2 ∧ x = 0 ∧ y = 0)) ∧ w = wr) (fun i _ => 2 - (intOf i).toNat)
  case atStart => exact ⟨0, rfl, .inl rfl, rfl⟩
  case round =>
    obtain ⟨k, rfl, hk, rfl⟩ := hrel
    rcases hk with rfl | ⟨rfl, hx⟩ | ⟨rfl, hx, hy⟩
    · by_cases hx : x = 0
      · go_wp2_with fail
        exact ⟨⟨1, rfl, .inr (.inl ⟨rfl, hx⟩), trivial⟩, by simp [intOf]⟩
      · go_wp2_with fail
        go_ret
        exact ⟨by simp [orF, hx], rfl⟩
    · by_cases hy : y = 0
      · go_wp2_with fail
        exact ⟨⟨2, rfl, .inr (.inr ⟨rfl, hx, hy⟩), trivial⟩, by simp [intOf]⟩
      · go_wp2_with fail
        go_ret
        exact ⟨by simp [orF, hx], rfl⟩
    · go_wp2_with fail
      go_ret
      exact ⟨by simp [orF, hx, hy], rfl⟩
theorem three_grow (W : World) (a b c : Obj) : ∃ q os', (((W.alloc a).alloc b).alloc c).drew = grow (W.drewN q) os' :=
  ⟨1, #[a, b, c], by
    simp only [World.alloc, World.drew, World.drewN, grow]
    congr 1⟩
set_option maxHeartbeats 800000 in
theorem order_any (x y : Int × Int) (W : World) : Calls Try.prog 40 #[.agg #[.int .i64 x.1, .int .i64 x.2], .agg #[.int .i64 y.1, .int .i64 y.2]] W fun e w' => e = .returned (.int .i64 (ordI x y)) ∧ ∃ q os', w' = grow (W.drewN q) os' := by
  obtain ⟨x1, x2⟩ := x
  obtain ⟨y1, y2⟩ := y
  obtain ⟨r, hr⟩ : ∃ r, r = Lib.compareInt x2 y2 := ⟨_, rfl⟩
  obtain ⟨s, hs⟩ : ∃ s, s = Lib.compareInt x1 y1 := ⟨_, rfl⟩
  have c1 := fun W => compare_int x2 y2 W
  have c2 := fun W => compare_int x1 y1 W
  have ho : ordI (x1, x2) (y1, y2) = orF r s := by rw [hr, hs]; rfl
  rw [← hr] at c1
  rw [← hs] at c2
  have HO := Lib.hid ho
  have H1 := Lib.hid c1
  have H2 := Lib.hid c2
  clear ho c1 c2 hr hs
  go_enter Try.func40, Try.ntmps40
  go_wp2_with fail
  obtain ⟨X, hX⟩ : ∃ X, X = (W.alloc (.cells #[.int .i64 x1, .int .i64 x2] 39)).alloc (.cells #[.int .i64 y1, .int .i64 y2] 39) := ⟨_, rfl⟩
  rw [← hX]
  have a0 : X.cell? ⟨W.heap.size, 0, none⟩ = some (.int .i64 x1) := by rw [hX]; simp
  have a1 : X.cell? ⟨W.heap.size, 1, none⟩ = some (.int .i64 x2) := by rw [hX]; simp
  have b0 : X.cell? ⟨W.heap.size + 1, 0, none⟩ = some (.int .i64 y1) := by rw [hX]; simp
  have b1 : X.cell? ⟨W.heap.size + 1, 1, none⟩ = some (.int .i64 y2) := by rw [hX]; simp
  have hX0 := Lib.hid hX
  clear hX
  have H0 := Lib.hid (show X.drew.cell? ⟨W.heap.size, 0, none⟩ = some (.int .i64 x1) ∧ X.drew.cell? ⟨W.heap.size, 1, none⟩ = some (.int .i64 x2) ∧ X.drew.cell? ⟨W.heap.size + 1, 0, none⟩ = some (.int .i64 y1) ∧ X.drew.cell? ⟨W.heap.size + 1, 1, none⟩ = some (.int .i64 y2) from ⟨a0, a1, b0, b1⟩)
  have HA := Lib.hid (show ∀ o, (X.drew.alloc o).cell? ⟨W.heap.size, 0, none⟩ = some (.int .i64 x1) ∧ (X.drew.alloc o).cell? ⟨W.heap.size, 1, none⟩ = some (.int .i64 x2) ∧ (X.drew.alloc o).cell? ⟨W.heap.size + 1, 0, none⟩ = some (.int .i64 y1) ∧ (X.drew.alloc o).cell? ⟨W.heap.size + 1, 1, none⟩ = some (.int .i64 y2) from fun o => ⟨Lib.cell?_alloc_some o a0, Lib.cell?_alloc_some o a1, Lib.cell?_alloc_some o b0, Lib.cell?_alloc_some o b1⟩)
  have HOR := Lib.hid (fun a b : Int => or_int a b X.heap.size (X.alloc (.cells #[.int .i64 a, .int .i64 b] 3)).drew (blk_last X _ rfl))
  clear a0 a1 b0 b1
  go_region_held3 (fun w' => w'.cell? ⟨W.heap.size, 0, none⟩ = some (.int .i64 x1) ∧ w'.cell? ⟨W.heap.size, 1, none⟩ = some (.int .i64 x2) ∧ w'.cell? ⟨W.heap.size + 1, 0, none⟩ = some (.int .i64 y1) ∧ w'.cell? ⟨W.heap.size + 1, 1, none⟩ = some (.int .i64 y2)) (first | with_reducible exact H0.out | exact H0.out | exact HA.out _) (first | (go_at_call 59; with_reducible refine (H1.out _).mono ?_; rintro e w3 ⟨rfl, rfl⟩) | (go_at_call 59; with_reducible refine (H2.out _).mono ?_; rintro e w3 ⟨rfl, rfl⟩) | (go_at_call 58; with_reducible refine (HOR.out _ _).mono ?_; rintro e w3 ⟨rfl, rfl⟩))
  go_wp2_with fail
  go_ret
  refine ⟨by rw [HO.out]; rfl, ?_⟩
  rw [hX0.out]
  exact three_grow W _ _ _
end Go.Proofs.Ytabhpbkkjijfjaa
