/-
  plane.Shift: the cells moved, or the error.
-/
import Derived.Test.YtffgpjkkgndkiaaTidyRef
import Derived.Test.YtffgpjkkgndkiaaMergeMath
namespace Go.Proofs.Ytffgpjkkgndkiaa
set_option maxRecDepth 100000
open Go.RowKit

theorem tidied_of {w w' : World} {zs : List (Int × Int)} {e : Ending} {r : List (Int × Int)} {er : Int} (hr : (r, er) = tidyF zs) (h : Tidied w zs e w') :
    ∃ a c, e = .returned (.tuple #[.slice a r.length c, .int .i64 er]) ∧ Below w.heap.size w w' ∧ Tight w.heap.size w' (.slice a r.length c) r := by
  obtain ⟨v, he, hb, ht⟩ := h
  rw [← hr] at he ht
  obtain ⟨a, c, rfl, _, _⟩ := ht.form
  exact ⟨a, c, he, hb, ht⟩
def Shifted (w : World) (zs : List (Int × Int)) (dx dy : Int) (e : Ending) (w' : World) : Prop :=
  ∃ v, e = .returned (.tuple #[v, .int .i64 (shiftF zs dx dy).2]) ∧ Below w.heap.size w w' ∧ Tight w.heap.size w' v (shiftF zs dx dy).1
section
variable {zs r : List (Int × Int)} {er dx dy : Int}
theorem shift_err (h : (r, er) = tidyF zs) (he : er ≠ 0) : shiftF zs dx dy = ([], er) := by rw [shiftF, ← h, if_pos he]
theorem shift_wide (h : (r, 0) = tidyF zs) (hw : wideF dx = true ∨ wideF dy = true) : shiftF zs dx dy = ([], 3) := by
  rw [shiftF, ← h, if_neg (by simp), if_pos (by simpa using hw)]
theorem shift_far (h : (r, 0) = tidyF zs) (h1 : wideF dx = false) (h2 : wideF dy = false) (hf : (r.map (moveC dx dy)).any farC = true) : shiftF zs dx dy = ([], 3) := by
  rw [shiftF, ← h, if_neg (by simp), if_neg (by simp [h1, h2]), if_pos hf]
theorem shift_ok (h : (r, 0) = tidyF zs) (h1 : wideF dx = false) (h2 : wideF dy = false) (hf : (r.map (moveC dx dy)).any farC = false) : shiftF zs dx dy = (r.map (moveC dx dy), 0) := by
  rw [shiftF, ← h, if_neg (by simp), if_neg (by simp [h1, h2]), if_neg (by simp [hf])]
theorem tidy_near (h : (r, 0) = tidyF zs) {c : Int × Int} (hc : c ∈ r) : -1099511627776 < c.1 ∧ c.1 < 1099511627776 ∧ -1099511627776 < c.2 ∧ c.2 < 1099511627776 := by
  obtain ⟨h1, h2, h3⟩ := tidyF_ok (l := zs) (by rw [← h])
  have e : r = sortF zs := by have := h.trans h3; simpa using this
  rw [e, mem_sortF] at hc
  have : farC c = false := by
    cases hf : farC c with
    | false => rfl
    | true => rw [List.any_eq_true.2 ⟨c, hc, hf⟩] at h2; cases h2
  simp [farC, farF] at this
  omega
theorem tidy_len (h : (r, er) = tidyF zs) : r.length ≤ 4096 := by have := tidyF_length zs; rw [← h] at this; exact this
theorem tidy_err_nil (h : (r, er) = tidyF zs) (he : er ≠ 0) : r = [] := by
  rcases tidyF_err zs with h' | ⟨_, h'⟩
  · rw [← h] at h'; exact absurd h' he
  · rw [← h] at h'; exact h'
end
/-- The first k moved. -/
def movedTo (dx dy : Int) (r : List (Int × Int)) (k : Nat) : List (Int × Int) := (r.take k).map (moveC dx dy) ++ r.drop k
theorem movedTo_len (dx dy : Int) (r : List (Int × Int)) (k : Nat) : (movedTo dx dy r k).length = r.length := by
  unfold movedTo; simp; omega
theorem movedTo_get (dx dy : Int) {r : List (Int × Int)} {k : Nat} {c : Int × Int} (h : r[k]? = some c) : (movedTo dx dy r k)[k]? = some c := by
  have hk := (List.getElem?_eq_some_iff.1 h).1
  unfold movedTo
  rw [List.getElem?_append_right (by simp; omega)]
  simp only [List.length_map, List.length_take, Nat.min_eq_left (Nat.le_of_lt hk), Nat.sub_self, List.getElem?_drop, Nat.add_zero]
  exact h
theorem movedTo_set (dx dy : Int) {r : List (Int × Int)} {k : Nat} {c : Int × Int} (h : r[k]? = some c) : (movedTo dx dy r k).set k (moveC dx dy c) = movedTo dx dy r (k + 1) := by
  obtain ⟨hk, rfl⟩ := List.getElem?_eq_some_iff.1 h
  unfold movedTo
  rw [List.set_append_right _ _ (by simp; omega)]
  have : k - ((r.take k).map (moveC dx dy)).length = 0 := by simp; omega
  rw [this, List.drop_eq_getElem_cons hk, List.set_cons_zero, List.take_add_one, List.getElem?_eq_getElem hk, Option.toList_some, List.map_append, List.append_assoc]
  rfl
theorem movedTo_all (dx dy : Int) (r : List (Int × Int)) : movedTo dx dy r r.length = r.map (moveC dx dy) := by unfold movedTo; simp
set_option maxHeartbeats 2000000 in
theorem shift_any (zs : List (Int × Int)) (dx dy : Int) (a : Option Addr) (cap : Nat) (w : World) (hs : Sl w 2 16 a zs.length cap (zs.flatMap encCell)) :
    Calls Try.prog 35 #[.slice a zs.length cap, .int .i64 dx, .int .i64 dy] w (Shifted w zs dx dy) := by
  have hwide := hs.wide
  obtain ⟨⟨r, er⟩, hR⟩ : ∃ R, R = tidyF zs := ⟨_, rfl⟩
  have hrl := tidy_len hR
  have HR := Lib.hid hR
  clear hR
  go_enter Try.func35, Try.ntmps35
  go_wp2_with fail
  refine (tidy_any zs a cap _ hs).mono ?_
  intro e w1 h1
  obtain ⟨a1, c1, rfl, hb1, ht1⟩ := tidied_of HR.out h1
  have HT := Lib.hid ht1
  clear h1 ht1
  by_cases he : er = 0
  · subst he
    have wide : wideF dx = true ∨ wideF dy = true → shiftF zs dx dy = ([], 3) := shift_wide HR.out
    have HW := Lib.hid wide
    clear wide
    rcases (show dx ≤ -2199023255552 ∨ (-2199023255552 < dx ∧ 2199023255552 ≤ dx) ∨ (-2199023255552 < dx ∧ dx < 2199023255552) by omega) with h | ⟨h, h'⟩ | ⟨h, h'⟩
    · have hx : wideF dx = true := by simp [wideF]; omega
      go_wp2_with fail
      refine bodyPost_ret (v := .tuple #[.slice none 0 0, .int .i64 3]) (by simp [results, Try.results35, go_sem]) rfl ⟨.slice none 0 0, by rw [HW.out (.inl hx)], hb1, by rw [HW.out (.inl hx)]; exact Tight.nil _ _⟩
    · have hx : wideF dx = true := by simp [wideF]; omega
      go_wp2_with fail
      refine bodyPost_ret (v := .tuple #[.slice none 0 0, .int .i64 3]) (by simp [results, Try.results35, go_sem]) rfl ⟨.slice none 0 0, by rw [HW.out (.inl hx)], hb1, by rw [HW.out (.inl hx)]; exact Tight.nil _ _⟩
    · have hx : wideF dx = false := by simp [wideF]; omega
      rcases (show dy ≤ -2199023255552 ∨ (-2199023255552 < dy ∧ 2199023255552 ≤ dy) ∨ (-2199023255552 < dy ∧ dy < 2199023255552) by omega) with g | ⟨g, g'⟩ | ⟨g, g'⟩
      · have hy : wideF dy = true := by simp [wideF]; omega
        go_wp2_with fail
        refine bodyPost_ret (v := .tuple #[.slice none 0 0, .int .i64 3]) (by simp [results, Try.results35, go_sem]) rfl ⟨.slice none 0 0, by rw [HW.out (.inr hy)], hb1, by rw [HW.out (.inr hy)]; exact Tight.nil _ _⟩
      · have hy : wideF dy = true := by simp [wideF]; omega
        go_wp2_with fail
        refine bodyPost_ret (v := .tuple #[.slice none 0 0, .int .i64 3]) (by simp [results, Try.results35, go_sem]) rfl ⟨.slice none 0 0, by rw [HW.out (.inr hy)], hb1, by rw [HW.out (.inr hy)]; exact Tight.nil _ _⟩
      · have hy : wideF dy = false := by simp [wideF]; omega
        obtain ⟨n, hN⟩ : ∃ n, n = r.length := ⟨_, rfl⟩
        rw [← hN] at HT hrl ⊢
        have HN := Lib.hid hN
        have HX := Lib.hid hx
        have HY := Lib.hid hy
        have hz1 := hb1.size
        clear hN hx hy
        go_wp2_with fail
        go_loopw [35] (fun i wr => ∃ k : Nat, i = .int .i64 k ∧ k ≤ n ∧ Below w.heap.size w wr ∧ Tight w.heap.size wr (.slice a1 n c1) (movedTo dx dy r k)) (fun i _ => n - (intOf i).toNat)
        case atStart => exact ⟨0, rfl, Nat.zero_le _, hb1, HT.out⟩
        case round =>
          obtain ⟨k, rfl, hk, hB, hT⟩ := hrel
          have hz := hB.size
          by_cases hlt : k < n
          · obtain ⟨c, hc⟩ : ∃ c, r[k]? = some c := ⟨r[k]'(by have := HN.out; omega), by simp⟩
            have hnr := tidy_near HR.out (List.mem_of_getElem? hc)
            rcases hT with ⟨h0, _⟩ | ⟨g1, cp, sp, hv, hH, hg, hl1, hl2, hl3⟩
            · exfalso; simp at h0; omega
            · simp only [Value.slice.injEq] at hv
              obtain ⟨rfl, _, rfl⟩ := hv
              have hmg := movedTo_get dx dy hc
              have x0 := hH.x hmg
              have y0 := hH.y hmg
              have f0 := hH.free (k * 2)
              have f1 := hH.free (k * 2 + 1)
              have HC := Lib.hid hc
              have HH := Lib.hid hH
              have HL := Lib.hid (show (movedTo dx dy r k).length ≤ c1 ∧ c1 ≤ maxLen ∧ c1 * 2 ≤ (movedTo dx dy r k).length * 2 + sp.length from ⟨hl1, hl2, hl3⟩)
              clear hc hmg hH hl1 hl2 hl3
              obtain ⟨x, y⟩ := c
              dsimp only at x0 y0 hnr
              obtain ⟨n1, n2, n3, n4⟩ := hnr
              go_wp2_with fail
              refine ⟨⟨k + 1, by go_num, by omega, (hB.setCell (by simpa using hg) _).setCell (by simpa using hg) _, ?_⟩, by simp [intOf]; omega⟩
              have hset := HH.out.set (k := k) (by rw [movedTo_len]; have := HN.out; omega) (moveC dx dy (x, y))
              rw [movedTo_set dx dy HC.out] at hset
              have hl := HL.out
              have e1 := movedTo_len dx dy r k
              have e2 := movedTo_len dx dy r (k + 1)
              have e3 := HN.out
              exact .inr ⟨g1, c1, sp, by rw [e2, e3], hset, hg, by omega, hl.2.1, by omega⟩
          · obtain rfl : k = n := by omega
            have hT' : Tight w.heap.size wr (.slice a1 (r.map (moveC dx dy)).length c1) (r.map (moveC dx dy)) := by
              rw [HN.out, movedTo_all] at hT
              rw [List.length_map]; exact hT
            have ht := tidy_any (r.map (moveC dx dy)) a1 c1 wr (hT'.sl (by rw [List.length_map, ← HN.out]; omega))
            rw [List.length_map, ← HN.out] at ht
            have HTT := Lib.hid ht
            clear ht hT hT'
            go_wp2_with fail
            refine HTT.out.mono ?_
            rintro e w2 ⟨v, rfl, hb2, ht2⟩
            have hB2 := hB.trans (hb2.mono hz)
            have hres : tidyF (r.map (moveC dx dy)) = shiftF zs dx dy := by
              have hst := shift_tidy zs dx dy
              rw [← HR.out] at hst
              rw [hst]
              cases hany : (r.map (moveC dx dy)).any farC with
              | true => rw [if_pos rfl, shift_far HR.out HX.out HY.out hany]
              | false => rw [if_neg (by simp), shift_ok HR.out HX.out HY.out hany]
            have HRR := Lib.hid hres
            have HT2 := Lib.hid ht2
            clear hres ht2
            obtain ⟨q, hq⟩ : ∃ q, q = (tidyF (r.map (moveC dx dy))).2 := ⟨_, rfl⟩
            rw [← hq]
            have HQ := Lib.hid hq
            clear hq
            go_wp2_with fail
            refine bodyPost_ret (v := .tuple #[v, .int .i64 q]) (by simp [results, Try.results35, go_sem]) rfl ⟨v, by rw [← HRR.out, HQ.out], hB2, by rw [← HRR.out]; exact HT2.out.mono hz⟩
  · have hrn := tidy_err_nil HR.out he
    have hres := shift_err (dx := dx) (dy := dy) HR.out he
    have HE := Lib.hid hres
    clear hres hrn
    go_wp2_with fail
    refine bodyPost_ret (v := .tuple #[.slice none 0 0, .int .i64 er]) (by simp [results, Try.results35, go_sem]) rfl ⟨.slice none 0 0, by rw [HE.out], hb1, by rw [HE.out]; exact Tight.nil _ _⟩
end Go.Proofs.Ytffgpjkkgndkiaa
