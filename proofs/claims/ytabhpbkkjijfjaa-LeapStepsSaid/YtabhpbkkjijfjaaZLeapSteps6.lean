/-
  A row of cells of one's own, sorted; what stands twice taken away; copied; clipped; slices.Compact at cells, in a row of one's own.
-/
import Derived.Test.YtabhpbkkjijfjaaZLeapSteps5
import Derived.Test.YtabhpbkkjijfjaaZLeapSteps4
namespace Go.Proofs.Ytabhpbkkjijfjaa
set_option maxRecDepth 100000
open Go.RowKit Go.Shelf Go.Sort

instance : Inhabited (Int × Int) := ⟨(0, 0)⟩
theorem flatK_eq (zs : List (Int × Int)) : flatK encCell 2 zs.toArray = (zs.flatMap encCell).toArray := by
  refine ext_get! (by rw [size_flatK, List.size_toArray, List.size_toArray, flat_len]) fun t ht => ?_
  have ht' : t < zs.toArray.size * 2 := by simpa using ht
  have hl : t / 2 < zs.length := by simp at ht'; omega
  rw [get_flatK _ _ _ t ht']
  have hm : t % 2 < 2 := Nat.mod_lt _ (by omega)
  have h1 : zs[t / 2]? = some zs[t / 2] := List.getElem?_eq_getElem hl
  have h2 := flat_at (k := 2) (enc := encCell) (by omega) (fun _ => rfl) zs (t / 2) (t % 2) _ h1 hm
  have e : t / 2 * 2 + t % 2 = t := by omega
  rw [e] at h2
  rw [getElem!_pos zs.toArray _ (by simpa using hl)]
  have hb : t < (zs.flatMap encCell).toArray.size := by rw [List.size_toArray, flat_len]; omega
  rw [getElem!_pos (zs.flatMap encCell).toArray t hb]
  have h3 : t % 2 < (encCell zs[t / 2]).length := hm
  rw [List.getElem?_eq_getElem h3, List.getElem?_eq_getElem (by simpa using hb)] at h2
  simp only [Option.some.injEq] at h2
  simp only [List.getElem_toArray]
  rw [h2]
  exact getElem!_pos (encCell zs[t / 2]) (t % 2) h3
theorem holdsK_of {w : World} {g : Nat} {zs : List (Int × Int)} {sp : List Value} (h : Held w g zs sp) : HoldsK encCell 2 w g 0 zs.toArray := by
  unfold HoldsK
  rw [flatK_eq]
  intro j hj
  have hj' : j < (zs.flatMap encCell).length := by simpa using hj
  rw [Nat.zero_add]
  refine ⟨?_, h.free j⟩
  rw [Joins.cell_of_block h, List.getElem?_toArray, List.getElem?_append_left hj', getElem!_pos (zs.flatMap encCell).toArray j hj]
  simp [List.getElem?_eq_getElem hj']
theorem sortWorldK_held {w : World} {g m : Nat} {zs ms : List (Int × Int)} {sp : List Value} {os : Array Obj} (h : Held w g zs sp) (hl : ms.length = zs.length) : Held (sortWorldK encCell 2 w g 0 m ms.toArray os) g ms sp ∧ Keeps (fun i => i = g) w (sortWorldK encCell 2 w g 0 m ms.toArray os) := by
  have hg := h.lt
  unfold sortWorldK putRowK
  rw [flatK_eq]
  have hb : (putRow id (Sort.ahead w m) g 0 (ms.flatMap encCell).toArray).heap[g]? = some (.cells (putCells id 0 (ms.flatMap encCell).toArray (zs.flatMap encCell ++ sp).toArray) 39 (0, 0)) := by
    have h' : (Sort.ahead w m).heap[g]? = some (.cells (zs.flatMap encCell ++ sp).toArray 39 (0, 0)) := h
    simp only [putRow, mapBlock, Array.getElem?_modify, h', if_true, Option.map_some, onCells]
  have e : putCells id 0 (ms.flatMap encCell).toArray (zs.flatMap encCell ++ sp).toArray = (ms.flatMap encCell ++ sp).toArray := by
    apply Array.ext_getElem?
    intro j
    have hfl : (ms.flatMap encCell).length = (zs.flatMap encCell).length := by rw [flat_len, flat_len, hl]
    simp only [putCells, Array.getElem?_mapIdx, List.getElem?_toArray, Nat.zero_le, true_and, Nat.zero_add, List.size_toArray, Nat.sub_zero, id]
    by_cases hj : j < (ms.flatMap encCell).length
    · rw [List.getElem?_append_left hj, List.getElem?_append_left (by rw [← hfl]; exact hj), List.getElem?_eq_getElem (by rw [← hfl]; exact hj), List.getElem?_eq_getElem hj]
      simp only [Option.map_some, hj, if_true]
      rw [getElem!_pos _ _ (by simpa using hj)]
      simp
    · rw [List.getElem?_append_right (by omega), List.getElem?_append_right (by omega), hfl]
      cases hs : sp[j - (zs.flatMap encCell).length]? with
      | none => simp
      | some v => simp only [Option.map_some]; rw [if_neg (by rw [← hfl]; exact hj)]
  refine ⟨?_, ⟨rfl, rfl, rfl, ?_, fun i hi hn => ?_⟩⟩
  · unfold Held
    rw [← e]
    have hlt := lt_of_block hb
    unfold grow
    simp only [Array.getElem?_append]
    rw [if_pos hlt]
    exact hb
  · unfold grow
    simp [putRow, mapBlock, Sort.ahead]
  · unfold grow
    simp only [Array.getElem?_append]
    rw [if_pos (by simp [putRow, mapBlock, Sort.ahead]; exact hi)]
    simp only [putRow, mapBlock, Array.getElem?_modify]
    rw [if_neg (fun e => hn e.symm)]
    rfl
def leC (x y : Int × Int) : Bool := !(ltOf ordI) y x
/-- The cells in order, those alike too. -/
def sortedC (zs : List (Int × Int)) : List (Int × Int) := zs.mergeSort leC
theorem sortedC_length (zs : List (Int × Int)) : (sortedC zs).length = zs.length := List.length_mergeSort zs
theorem sortedC_mem (zs : List (Int × Int)) (c : Int × Int) : c ∈ sortedC zs ↔ c ∈ zs := List.mem_mergeSort
theorem sortedC_sorted (zs : List (Int × Int)) : Sorted (sortedC zs) := by
  have h := List.pairwise_mergeSort (le := leC) (fun a b c h1 h2 => by
    simp only [leC, ordI_lt, Bool.not_eq_true'] at *
    rw [Bool.eq_false_iff, Ne, cellLt_iff] at *
    omega) (fun a b => by
    simp only [leC, ordI_lt, Bool.or_eq_true, Bool.not_eq_true']
    rw [Bool.eq_false_iff, Bool.eq_false_iff, Ne, Ne, cellLt_iff, cellLt_iff]
    omega) zs
  refine h.imp fun {a b} hab => ?_
  simpa [leC, ordI_lt] using hab
theorem compact_sorted (zs : List (Int × Int)) : compF (sortedC zs) = sortF zs := compF_sortF (sortedC_sorted zs) (sortedC_mem zs)
theorem sort_any (zs : List (Int × Int)) (g cap : Nat) (sp : List Value) (w : World) (h : Held w g zs sp) (hn : zs.length < 4611686018427387904) :
    Calls Try.prog 39 #[.slice (some ⟨g, 0, none⟩) zs.length cap, .func (.func 40) #[] #[]] w fun e w' =>
      e = .returned (.tuple #[]) ∧ Held w' g (sortedC zs) sp ∧ Keeps (fun i => i = g) w w' := by
  have eg : ∀ args w, (callFunc 40 args).run Try.prog w = .ok (.enter 40 args) w := enters_of Try.func40 (by kernel_rfl) rfl
  have hcmp : CmpLays Try.prog 40 #[] encCell 2 ordI g 0 zs.toArray.size w := fun _ _ _ _ x y => order_any x y _
  have hS := AnyQ.slices_SortFunc_total lsf 2 Try.isAgg39 Try.sizeOf39 encCell (fun _ => rfl) (fun x v hv => by simp [encCell] at hv; rcases hv with rfl | rfl <;> rfl) ordI ordI_swo 40 #[] g 0 cap zs.toArray w eg hcmp (holdsK_of h) h.lt (by simpa using hn) ordI_tot
  simp only [List.size_toArray] at hS
  change Calls Try.prog 39 _ _ _ at hS
  refine hS.mono ?_
  rintro e w' ⟨rfl, n, os, rfl⟩
  have := sortWorldK_held (m := n) (os := os) h (sortedC_length zs)
  exact ⟨rfl, this⟩
theorem sort_none (a : Option Addr) (cap : Nat) (w : World) :
    Calls Try.prog 39 #[.slice a 0 cap, .func (.func 40) #[] #[]] w fun e w' => e = .returned (.tuple #[]) ∧ w' = w :=
  AnyF.slices_SortFunc_none (P := Try.prog) { lsf with } a cap (.func (.func 40) #[] #[]) w
end Go.Proofs.Ytabhpbkkjijfjaa
namespace Go.Proofs.Ytabhpbkkjijfjaa
set_option maxRecDepth 100000
open Go.RowKit

theorem drop_get {α : Type} {xs zs : List α} {k j : Nat} (h : xs.drop k = zs.drop k) (hj : k ≤ j) : xs[j]? = zs[j]? := by
  have : (xs.drop k)[j - k]? = (zs.drop k)[j - k]? := by rw [h]
  rw [List.getElem?_drop, List.getElem?_drop, show k + (j - k) = j by omega] at this
  exact this
theorem zeroCell : ∀ w, (zeroValue 39).run Try.prog w = .ok (.agg #[.int .i64 0, .int .i64 0]) w := fun w => by kernel_rfl
theorem drop_more {α : Type} {xs zs : List α} {k : Nat} (h : xs.drop k = zs.drop k) : xs.drop (k + 1) = zs.drop (k + 1) := by
  rw [← List.drop_drop, ← List.drop_drop, h]
theorem dd_dup {zs : List (Int × Int)} {i : Nat} {p : Int × Int} (h : zs[i]? = some p) : ddF p (zs.drop i) = ddF p (zs.drop (i + 1)) := by
  obtain ⟨hl, rfl⟩ := List.getElem?_eq_some_iff.1 h
  rw [List.drop_eq_getElem_cons hl, ddF, if_pos rfl]
theorem dd_next {zs : List (Int × Int)} {i : Nat} {p q : Int × Int} (h : zs[i]? = some q) (hne : ¬ q = p) : ddF p (zs.drop i) = q :: ddF q (zs.drop (i + 1)) := by
  obtain ⟨hl, rfl⟩ := List.getElem?_eq_some_iff.1 h
  rw [List.drop_eq_getElem_cons hl, ddF, if_neg hne]
theorem take_set_succ {α : Type} {xs : List α} {a : Nat} (h : a < xs.length) {c : α} : (xs.set a c).take (a + 1) = xs.take a ++ [c] := by
  rw [List.take_add_one, List.take_set_of_le (Nat.le_refl _), List.getElem?_set_self h]
  rfl
theorem comp_next {zs : List (Int × Int)} {j : Nat} {p q : Int × Int} (h : zs[j + 1]? = some q) (hne : ¬ q = p) : zs.take (j + 1) ++ ddF p (zs.drop (j + 1)) = zs.take (j + 1 + 1) ++ ddF q (zs.drop (j + 1 + 1)) := by
  obtain ⟨hl, rfl⟩ := List.getElem?_eq_some_iff.1 h
  rw [List.drop_eq_getElem_cons hl, ddF, if_neg hne, List.take_add_one (i := j + 1), h]
  simp only [Option.toList_some, List.append_assoc, List.singleton_append]
theorem comp_dup {zs : List (Int × Int)} {j : Nat} {p : Int × Int} (h : zs[j + 1]? = some p) : zs.take (j + 1) ++ ddF p (zs.drop (j + 1)) = zs.take (j + 1) ++ ddF p (zs.drop (j + 1 + 1)) := by
  obtain ⟨hl, rfl⟩ := List.getElem?_eq_some_iff.1 h
  rw [List.drop_eq_getElem_cons hl, ddF, if_pos rfl]
set_option maxHeartbeats 1000000 in
theorem compact_few (a : Option Addr) (n cap : Nat) (hn : n < 2) (w : World) :
    Calls Try.prog 42 #[.slice a n cap] w fun e w' => e = .returned (.slice a n cap) ∧ w' = w := by
  go_enter Try.func42, Try.ntmps42
  go_wp2_with fail
  go_ret
  exact ⟨rfl, rfl⟩
set_option maxHeartbeats 2000000 in
theorem compact_any (zs : List (Int × Int)) (g cap : Nat) (sp : List Value) (w : World) (h : Held w g zs sp) (h2 : 2 ≤ zs.length) (hc : zs.length ≤ cap) (hm : cap ≤ maxLen) :
    Calls Try.prog 42 #[.slice (some ⟨g, 0, none⟩) zs.length cap] w fun e w' =>
      e = .returned (.slice (some ⟨g, 0, none⟩) (compF zs).length cap) ∧ ∃ sp', Held w' g (compF zs) sp' ∧ Keeps (fun i => i = g) w w' := by
  obtain ⟨n, hN⟩ : ∃ n, n = zs.length := ⟨_, rfl⟩
  rw [← hN] at h2 hc ⊢
  have HN := Lib.hid hN
  clear hN
  unfold maxLen at hm
  go_enter Try.func42, Try.ntmps42
  go_wp2_with fail
  go_loopw [3] (fun k wr => ∃ (j : Nat) (p : Int × Int), k = .int .i64 (j + 1 : Nat) ∧ j + 1 ≤ n ∧ zs[j]? = some p ∧ Aside (compF zs = zs.take (j + 1) ++ ddF p (zs.drop (j + 1))) ∧ Held wr g zs sp ∧ Keeps (fun i => i = g) w wr) (fun k _ => n - (intOf k).toNat)
  case atStart =>
    have hl := HN.out
    match zs, h, hl with
    | a :: r, h, hl => exact ⟨0, a, rfl, by omega, rfl, by show _ = _; simpa using compF_cons r a, h, Keeps.refl _ _⟩
    | [], _, hl => simp at hl; omega
  case round =>
    obtain ⟨j, p, rfl, hj, hp, HC, hH, hK⟩ := hrel
    have x0 := hH.x hp
    have y0 := hH.y hp
    have HP := Lib.hid hp
    clear hp
    by_cases hlt : j + 1 < n
    · obtain ⟨q, hq⟩ : ∃ q, zs[j + 1]? = some q := ⟨zs[j + 1]'(by have := HN.out; omega), by simp⟩
      have x1 := hH.x hq
      have y1 := hH.y hq
      have HQ := Lib.hid hq
      clear hq
      have hgl := hH.lt
      obtain ⟨p1, p2⟩ := p
      obtain ⟨q1, q2⟩ := q
      dsimp only at x0 y0 x1 y1
      rcases (show (q1 = p1 ∧ q2 = p2) ∨ (q1 = p1 ∧ ¬ q2 = p2) ∨ ¬ q1 = p1 by omega) with ⟨rfl, rfl⟩ | ⟨rfl, e2⟩ | e1
      · go_wp2_with fail
        go_quiet (fail)
        go_wp2_with fail
        go_loopw [3, 5] (fun k k2 wr' => ∃ (a m : Nat) (p : Int × Int) (xs : List (Int × Int)), k = .int .i64 (a : Nat) ∧ k2 = .int .i64 (m + 1 : Nat) ∧ j + 1 ≤ a ∧ a ≤ j + 1 + m ∧ j + 1 + m < n ∧ xs.length = n ∧ Aside (xs.drop (j + 1 + m) = zs.drop (j + 1 + m)) ∧ zs[j + 1 + m]? = some p ∧ Aside (compF zs = xs.take a ++ ddF p (zs.drop (j + 1 + m + 1))) ∧ Held wr' g xs sp ∧ Keeps (fun i => i = g) w wr') (fun _ k2 _ => n - (intOf k2).toNat)
        case atStart =>
          refine ⟨j + 1, 0, (q1, q2), zs, rfl, rfl, by omega, by omega, by omega, HN.out.symm, rfl, HQ.out, ?_, hH, hK.below (Joins.below_draws _ _ _)⟩
          show _ = _
          rw [HC.out]
          exact comp_dup HQ.out
        case round =>
          obtain ⟨a, m, p, xs, rfl, rfl, ha, ham, hmn, hxl, HD, hp, HE, hH', hK'⟩ := hrel
          have hpx : xs[j + 1 + m]? = some p := (drop_get HD.out (Nat.le_refl _)).trans hp
          have x0' := hH'.x hpx
          have y0' := hH'.y hpx
          have HP' := Lib.hid hp
          clear hp hpx x1 y1 x0 y0
          obtain ⟨p1, p2⟩ := p
          dsimp only at x0' y0'
          have x0 : wr.cell? ⟨g, (j + 1) * 2 + m * 2, none⟩ = some (.int .i64 p1) := by rw [← x0']; congr 2; omega
          have y0 : wr.cell? ⟨g, (j + 1) * 2 + m * 2 + 1, none⟩ = some (.int .i64 p2) := by rw [← y0']; congr 2; omega
          clear x0' y0'
          have hgl' := hH'.lt
          by_cases hm2 : j + 1 + m + 1 < n
          · obtain ⟨r, hr⟩ : ∃ r, zs[j + 1 + m + 1]? = some r := ⟨zs[j + 1 + m + 1]'(by have := HN.out; omega), by simp⟩
            have hrx : xs[j + 1 + m + 1]? = some r := (drop_get HD.out (by omega)).trans hr
            have x1' := hH'.x hrx
            have y1' := hH'.y hrx
            have HR := Lib.hid hr
            clear hr hrx
            obtain ⟨r1, r2⟩ := r
            dsimp only at x1' y1'
            have x1 : wr.cell? ⟨g, (j + 1) * 2 + (m + 1) * 2, none⟩ = some (.int .i64 r1) := by rw [← x1']; congr 2; omega
            have y1 : wr.cell? ⟨g, (j + 1) * 2 + (m + 1) * 2 + 1, none⟩ = some (.int .i64 r2) := by rw [← y1']; congr 2; omega
            clear x1' y1'
            have hal : a < xs.length := by omega
            have f0 := hH'.free (a * 2)
            have f1 := hH'.free (a * 2 + 1)
            obtain ⟨c, hca⟩ : ∃ c, xs[a]? = some c := ⟨xs[a], by simp⟩
            have z0 := hH'.x hca
            have z1 := hH'.y hca
            clear hca
            rcases (show (r1 = p1 ∧ r2 = p2) ∨ (r1 = p1 ∧ ¬ r2 = p2) ∨ ¬ r1 = p1 by omega) with ⟨rfl, rfl⟩ | ⟨rfl, e2⟩ | e1
            · go_wp2_with fail
              go_quiet (fail)
              go_wp2_with fail
              refine ⟨⟨a, m + 1, (r1, r2), xs, rfl, by go_num, by omega, by omega, by omega, hxl, drop_more HD.out, HR.out, ?_, hH', hK'.below (Joins.below_draws _ _ _)⟩, by simp [intOf]; omega⟩
              show _ = _
              rw [HE.out, dd_dup HR.out]
              rfl
            · have hne : ¬ ((r1, r2) : Int × Int) = (r1, p2) := by simp [e2]
              have HNE := Lib.hid hne
              clear hne
              go_wp2_with fail
              go_quiet (fail)
              go_wp2_with fail
              refine ⟨⟨a + 1, m + 1, (r1, r2), xs.set a (r1, r2), by go_num, by go_num, by omega, by omega, by omega, by simpa using hxl, ?_, HR.out, ?_, Held.set (hH'.keep rfl) hal (r1, r2), ((hK'.below (Joins.below_draws _ _ _)).setCell (fun _ => rfl) _).setCell (fun _ => rfl) _⟩, by simp [intOf]; omega⟩
              · show _ = _
                rw [List.drop_set_of_lt (by omega)]
                exact drop_more HD.out
              · show _ = _
                rw [HE.out, dd_next HR.out HNE.out, take_set_succ hal]
                simp
                rfl
            · have hne : ¬ ((r1, r2) : Int × Int) = (p1, p2) := by simp [e1]
              have HNE := Lib.hid hne
              clear hne
              go_wp2_with fail
              go_quiet (fail)
              go_wp2_with fail
              refine ⟨⟨a + 1, m + 1, (r1, r2), xs.set a (r1, r2), by go_num, by go_num, by omega, by omega, by omega, by simpa using hxl, ?_, HR.out, ?_, Held.set (hH'.keep rfl) hal (r1, r2), ((hK'.below (Joins.below_draws _ _ _)).setCell (fun _ => rfl) _).setCell (fun _ => rfl) _⟩, by simp [intOf]; omega⟩
              · show _ = _
                rw [List.drop_set_of_lt (by omega)]
                exact drop_more HD.out
              · show _ = _
                rw [HE.out, dd_next HR.out HNE.out, take_set_succ hal]
                simp
                rfl
          · have hen : j + 1 + m + 1 = n := by omega
            have hal : a ≤ xs.length := by omega
            have hcl := fun ty => run_clear_row (P := Try.prog) wr 24 39 ty (.agg #[.int .i64 0, .int .i64 0]) Try.underlying24 zeroCell (by simp [Value.cells, Value.oneCell']) g (a * 2) (n - a) (cap - a) _ 39 hH' (by
              have e1 : (xs.flatMap encCell ++ sp).toArray.size = xs.length * 2 + sp.length := by rw [List.size_toArray, List.length_append, flat_len]
              have e2 : (Value.agg #[Value.int .i64 0, .int .i64 0]).cells.size = 2 := rfl
              rw [e1, e2]; omega) (by omega)
            have HCL := Lib.hid hcl
            have hcz : compF zs = xs.take a := by
              have hl := HN.out
              rw [HE.out, List.drop_eq_nil_of_le (by omega)]
              simp [ddF]
            have hln : (compF zs).length = a := by rw [hcz, List.length_take]; omega
            have hcd := fun (zz : List Value) (hz : zz.length = (xs.length - a) * 2) => hH'.cleared hal hz
            have HCD := Lib.hid hcd
            have HCZ := Lib.hid hcz
            have HLN := Lib.hid hln
            clear hcl hcd hcz hln
            have hap : a < n := by omega
            have hac : a < cap := by omega
            have hc0 := HCL.out 0
            obtain ⟨wc, hwc⟩ : ∃ wc, .ok (.tuple #[]) wc = (Builtin.clear_ #[24] 0 #[.slice (some ⟨g, a * 2, none⟩) (n - a) (cap - a)]).run Try.prog wr ∧ ∃ zz : List Value, zz.length = (xs.length - a) * 2 ∧ wc = wr.setRow g ((xs.flatMap encCell ++ sp).toArray.toList.take (a * 2) ++ zz ++ (xs.flatMap encCell ++ sp).toArray.toList.drop (a * 2 + (xs.length - a) * 2)).toArray :=
              ⟨_, hc0.symm, (Builtin.zeroCells (Value.agg #[Value.int .i64 0, Value.int .i64 0]).cells (n - a)).toList, by simp [Builtin.zeroCells, Value.cells, hxl], by rw [hxl]; rfl⟩
            obtain ⟨h1, zz, hzz, hwc⟩ := hwc
            have hc1 := h1.symm
            have HZ := Lib.hid hzz
            have HW := Lib.hid hwc
            clear h1 hc0 hzz hwc
            go_wp2_with fail
            go_ret
            refine ⟨by rw [HLN.out]; rfl, ⟨zz ++ sp, ?_⟩, ?_⟩
            · rw [HCZ.out, HW.out]
              exact HCD.out zz HZ.out
            · rw [HW.out]
              exact ⟨hK'.os, hK'.tape, hK'.output, by simpa using hK'.size, fun i hi hn => (setRow_other wr g i _ (fun e => hn e)).trans (hK'.block i hi hn)⟩
      · go_wp2_with fail
        go_quiet (fail)
        go_wp2_with fail
        refine ⟨⟨j + 1, (q1, q2), by go_num, by omega, HQ.out, ?_, hH, hK.below (Joins.below_draws _ _ _)⟩, by simp [intOf]; omega⟩
        show _ = _
        rw [HC.out]
        exact comp_next HQ.out (by simp [e2])
      · go_wp2_with fail
        go_quiet (fail)
        go_wp2_with fail
        refine ⟨⟨j + 1, (q1, q2), by go_num, by omega, HQ.out, ?_, hH, hK.below (Joins.below_draws _ _ _)⟩, by simp [intOf]; omega⟩
        show _ = _
        rw [HC.out]
        exact comp_next HQ.out (by simp [e1])
    · obtain rfl : j + 1 = n := by omega
      go_wp2_with fail
      go_ret
      have hcz : compF zs = zs := by
        have h1 := HC.out
        have hl := HN.out
        rw [h1, List.drop_eq_nil_of_le (by omega), List.take_of_length_le (by omega)]
        simp [ddF]
      rw [hcz]
      exact ⟨by rw [HN.out]; rfl, sp, hH, hK⟩
end Go.Proofs.Ytabhpbkkjijfjaa
