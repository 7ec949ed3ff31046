/-
  plane.Tidy: the cells in order, each once, or the error.
-/
import Derived.Lib.SliceRun
import Derived.Test.YtabhpbkkjijfjaaZLeapSteps6
namespace Go.Proofs.Ytabhpbkkjijfjaa
set_option maxRecDepth 100000
open Go.RowKit

/-- A list of cells at the head of a row of one's own, or nil. -/
def Tight (base : Nat) (w : World) (v : Value) (xs : List (Int × Int)) : Prop :=
  (v = .slice none 0 0 ∧ xs = []) ∨ ∃ g cap sp, v = .slice (some ⟨g, 0, none⟩) xs.length cap ∧ Held w g xs sp ∧ base ≤ g ∧ xs.length ≤ cap ∧ cap ≤ maxLen ∧ cap * 2 ≤ xs.length * 2 + sp.length
theorem Tight.row {base : Nat} {w : World} {v : Value} {xs : List (Int × Int)} (h : Tight base w v xs) : Row w 39 2 v xs.length (xs.flatMap encCell) := by
  rcases h with ⟨rfl, rfl⟩ | ⟨g, cap, sp, rfl, hh, _, h1, h2, h3⟩
  · exact Row.nil _ _ _
  · exact hh.row h1 h2 h3
theorem Tight.form {base : Nat} {w : World} {v : Value} {xs : List (Int × Int)} (h : Tight base w v xs) : ∃ a c, v = .slice a xs.length c ∧ xs.length ≤ c ∧ c ≤ maxLen := by
  rcases h with ⟨rfl, rfl⟩ | ⟨g, cap, sp, rfl, hh, _, h1, h2, h3⟩
  · exact ⟨none, 0, rfl, Nat.le_refl _, Nat.zero_le _⟩
  · exact ⟨_, _, rfl, h1, h2⟩
theorem Tight.below {base : Nat} {w w' : World} {v : Value} {xs : List (Int × Int)} (h : Tight base w v xs) (hb : Below w.heap.size w w') : Tight base w' v xs := by
  rcases h with h | ⟨g, cap, sp, rfl, hh, h0, h1⟩
  · exact .inl h
  · exact .inr ⟨g, cap, sp, rfl, hh.below hb hh.lt, h0, h1⟩
theorem Tight.mono {base base' : Nat} {w : World} {v : Value} {xs : List (Int × Int)} (h : Tight base w v xs) (hb : base' ≤ base) : Tight base' w v xs := by
  rcases h with h | ⟨g, cap, sp, rfl, hh, h0, h1⟩
  · exact .inl h
  · exact .inr ⟨g, cap, sp, rfl, hh, by omega, h1⟩
theorem Tight.nil (base : Nat) (w : World) : Tight base w (.slice none 0 0) [] := .inl ⟨rfl, rfl⟩
theorem Tight.of_own {base : Nat} {w : World} {v : Value} {xs : List (Int × Int)} (h : w.ownsRow base 39 2 v xs.length (xs.flatMap encCell)) : Tight base w v xs := by
  rcases h.2 with ⟨h0, h1⟩ | ⟨g, cap, cur, rfl, _, _, hc, _⟩
  · exact .inl ⟨h0, List.eq_nil_of_length_eq_zero h1⟩
  · obtain ⟨sp, h1, h2, h3, h4⟩ := held_of_own h
    exact .inr ⟨g, cap, sp, rfl, h1, h3, hc, h4, by omega⟩
theorem Tight.sl {base : Nat} {w : World} {a : Option Addr} {cap : Nat} {xs : List (Int × Int)} (h : Tight base w (.slice a xs.length cap) xs) (hb : xs.length * 16 ≤ 140737488351232) : Sl w 2 16 a xs.length cap (xs.flatMap encCell) := by
  obtain ⟨a', c', e, hs⟩ := h.row.sl (bytes := 16) hb
  simp only [Value.slice.injEq, true_and] at e
  obtain ⟨rfl, rfl⟩ := e
  exact hs

def Tidied (w : World) (zs : List (Int × Int)) (e : Ending) (w' : World) : Prop :=
  ∃ v, e = .returned (.tuple #[v, .int .i64 (tidyF zs).2]) ∧ Below w.heap.size w w' ∧ Tight w.heap.size w' v (tidyF zs).1

theorem within_any (n : Int) (w : World) : Calls Try.prog 37 #[.int .i64 n] w fun e w' => e = .returned (.bool (!farF n)) ∧ w = w' := by
  rcases (show n ≤ -1099511627776 ∨ (-1099511627776 < n ∧ n < 1099511627776) ∨ (-1099511627776 < n ∧ 1099511627776 ≤ n) by omega) with h | ⟨h, h'⟩ | ⟨h, h'⟩
  · have hf : farF n = true := by simp [farF]; omega
    rw [hf]
    go_enter Try.func37, Try.ntmps37
    go_wp2_with fail
    go_ret
    exact ⟨rfl, rfl⟩
  · have hf : farF n = false := by simp [farF]; omega
    rw [hf]
    go_enter Try.func37, Try.ntmps37
    go_wp2_with fail
    go_ret
    exact ⟨by simp, rfl⟩
  · have hf : farF n = true := by simp [farF]; omega
    rw [hf]
    go_enter Try.func37, Try.ntmps37
    go_wp2_with fail
    go_ret
    exact ⟨by simp; omega, rfl⟩
theorem clip_any (a : Option Addr) (n cap : Nat) (h : n ≤ cap) (w : World) :
    Calls Try.prog 41 #[.slice a n cap] w fun e w' => e = .returned (.slice a n n) ∧ w = w' := by
  go_enter Try.func41, Try.ntmps41
  go_wp2_with fail
  go_ret
  exact ⟨rfl, rfl⟩
set_option maxHeartbeats 1000000 in
theorem clone_any (zs : List (Int × Int)) (a : Option Addr) (cap : Nat) (w : World) (hs : Sl w 2 16 a zs.length cap (zs.flatMap encCell)) :
    Calls Try.prog 38 #[.slice a zs.length cap] w (Cells w zs) := by
  obtain ⟨i0, hi, hz0, hz1, hz2⟩ := info_parts infoCell
  have hn := hs.wide
  have hl := hs.len
  have qn := fun (w : World) (a : Option Addr) (n c n' c' : Nat) => Lib.run_eql_slice_nil (P := Try.prog) w 24 _ a n c n' c' Try.underlying24
  match ha : a with
  | none =>
    have hc : cap = 0 := hs.nil rfl
    have hk0 : zs = [] := List.eq_nil_of_length_eq_zero (by have := hs.room; omega)
    subst hc
    subst hk0
    clear hl hn
    go_enter Try.func38, Try.ntmps38
    go_wp2_with fail
    refine bodyPost_ret (v := .slice none 0 0) (by simp [results, Try.results38, go_sem]) rfl ⟨_, rfl, Below.refl _ _, World.ownsRow_nil _ _ _ _⟩
  | some ad =>
    have hW : ∀ j u, (zs.flatMap encCell)[j]? = some u → (w.alloc (.cells #[] 39)).cell? (ad.add j) = some u := fun j u hj => Lib.cell?_alloc_some _ (hs.news j u hj)
    have HW := Lib.hid hW
    have HL := Lib.hid hs.len
    clear hl hW
    go_enter Try.func38, Try.ntmps38
    go_wp2_with ((at_builtin; refine wpList_append_own_at _ rfl _ _ 24 rfl w.heap.size 39 i0 _ 2 16 Try.underlying24 hi hz0 hz1 hz2 rfl (by omega) (.slice (some ⟨w.heap.size, 0, none⟩) 0 0) 0 [] rfl (World.ownsRow_made w #[] 0 (Nat.le_refl _) (Nat.zero_le _) rfl) ad zs.length cap (zs.flatMap encCell) rfl HL.out HW.out (encCell_one zs) (by unfold maxLen; omega) (by omega) (by simp) ?_; intro v1 w1 hown1 hgrow1 hnil1 hat1; rw [Nat.zero_add, List.nil_append] at hown1; obtain ⟨va, vc, rfl⟩ := own_form hown1; clear hnil1 hat1))
    refine bodyPost_ret (v := .slice va zs.length vc) (by simp [results, Try.results38, go_sem]) rfl ⟨_, rfl, ((Below.refl _ _).alloc (Nat.le_refl _) _).grown hgrow1 (by simp) (by simp [Value.ownBlock]), hown1⟩
theorem tidyF_far {zs : List (Int × Int)} {k : Nat} {c : Int × Int} (h : zs[k]? = some c) (hl : zs.length ≤ 4096) (hf : farC c = true) : tidyF zs = ([], 3) := by
  have : zs.any farC = true := List.any_eq_true.2 ⟨c, List.mem_of_getElem? h, hf⟩
  rw [tidyF, if_neg (by omega), if_pos this]
theorem any_take_succ {zs : List (Int × Int)} {k : Nat} {c : Int × Int} (h : zs[k]? = some c) (hp : (zs.take k).any farC = false) (hf : farC c = false) : (zs.take (k + 1)).any farC = false := by
  rw [List.take_add_one, h, List.any_append, hp]
  simp [hf]
set_option maxHeartbeats 2000000 in
theorem tidy_any (zs : List (Int × Int)) (a : Option Addr) (cap : Nat) (w : World) (hs : Sl w 2 16 a zs.length cap (zs.flatMap encCell)) :
    Calls Try.prog 24 #[.slice a zs.length cap] w (Tidied w zs) := by
  obtain ⟨n, hN⟩ : ∃ n, n = zs.length := ⟨_, rfl⟩
  have HS := Lib.hid hs
  have HN := Lib.hid hN
  rw [← hN] at hs ⊢
  have hwide := hs.wide
  clear hN
  by_cases hbig : 4096 < n
  · have ht : tidyF zs = ([], 5) := by rw [tidyF, if_pos (by have := HN.out; omega)]
    have HT := Lib.hid ht
    clear ht
    go_enter Try.func24, Try.ntmps24
    go_wp2_with fail
    refine bodyPost_ret (v := .tuple #[.slice none 0 0, .int .i64 5]) (by simp [results, Try.results24, go_sem]) rfl ⟨.slice none 0 0, by rw [HT.out], Below.refl _ _, by rw [HT.out]; exact Tight.nil _ _⟩
  · go_enter Try.func24, Try.ntmps24
    go_wp2_with fail
    go_loopw [12] (fun i wr => ∃ k : Nat, i = .int .i64 k ∧ k ≤ n ∧ Aside ((zs.take k).any farC = false) ∧ Below w.heap.size w wr) (fun i _ => n - (intOf i).toNat)
    case atStart => exact ⟨0, rfl, Nat.zero_le _, rfl, Below.refl _ _⟩
    case round =>
      obtain ⟨k, rfl, hk, HF, hB⟩ := hrel
      have hz := hB.size
      by_cases hlt : k < n
      · obtain ⟨c, hc⟩ : ∃ c, zs[k]? = some c := ⟨zs[k]'(by have := HN.out; omega), by simp⟩
        obtain ⟨b, o, rfl, hrow⟩ := hs.row (by omega)
        have hb := hs.lt (by omega) (by omega)
        have e0 := (hB.cell (p := ⟨b, o + k * 2, none⟩) hb).trans (hrow _ _ (flat_nth hc).1)
        have e1 : wr.cell? ⟨b, o + k * 2 + 1, none⟩ = some (.int .i64 c.2) := (hB.cell (p := ⟨b, o + k * 2 + 1, none⟩) hb).trans (by have := hrow _ _ (flat_nth hc).2; rw [← Nat.add_assoc] at this; exact this)
        have HC := Lib.hid hc
        clear hc hrow
        obtain ⟨x, y⟩ := c
        dsimp only at e0 e1
        by_cases hx : farF x = true
        · have ht := tidyF_far HC.out (by have := HN.out; omega) (by simp [farC, hx])
          have HT := Lib.hid ht
          clear ht
          go_wp2_with ((go_at_call 37; refine (within_any _ _).mono ?_; rintro e w3 ⟨rfl, rfl⟩))
          refine bodyPost_ret (v := .tuple #[.slice none 0 0, .int .i64 3]) (by simp [results, Try.results24, go_sem]) rfl ⟨.slice none 0 0, by rw [HT.out], hB.alloc hB.size _, by rw [HT.out]; exact Tight.nil _ _⟩
        · have hx : farF x = false := by simpa using hx
          by_cases hy : farF y = true
          · have ht := tidyF_far HC.out (by have := HN.out; omega) (by simp [farC, hy])
            have HT := Lib.hid ht
            clear ht
            go_wp2_with ((go_at_call 37; refine (within_any _ _).mono ?_; rintro e w3 ⟨rfl, rfl⟩))
            refine bodyPost_ret (v := .tuple #[.slice none 0 0, .int .i64 3]) (by simp [results, Try.results24, go_sem]) rfl ⟨.slice none 0 0, by rw [HT.out], hB.alloc hB.size _, by rw [HT.out]; exact Tight.nil _ _⟩
          · have hy : farF y = false := by simpa using hy
            have hs1 : Aside ((zs.take (k + 1)).any farC = false) := any_take_succ HC.out HF.out (by simp [farC, hx, hy])
            go_wp2_with ((go_at_call 37; refine (within_any _ _).mono ?_; rintro e w3 ⟨rfl, rfl⟩))
            exact ⟨⟨k + 1, by go_num, by omega, hs1, hB.alloc hB.size _⟩, by simp [intOf]; omega⟩
      · obtain rfl : k = n := by omega
        have hany : zs.any farC = false := by
          have h := HF.out
          rwa [HN.out, List.take_length] at h
        have ht : tidyF zs = (sortF zs, 0) := by rw [tidyF, if_neg (by have := HN.out; omega), if_neg (by rw [hany]; simp)]
        have HT := Lib.hid ht
        have hcl := clone_any zs a cap wr (HS.out.below (by omega) hB)
        rw [← HN.out] at hcl
        have HCL := Lib.hid hcl
        clear ht hany hcl
        go_wp2_with fail
        refine HCL.out.mono ?_
        rintro e w1 ⟨v1, rfl, hb1, ho1⟩
        have hB1 := hB.trans (hb1.mono hz)
        have hz1 := hb1.size
        by_cases h0 : k = 0
        · subst h0
          have hnil : zs = [] := List.eq_nil_of_length_eq_zero HN.out.symm
          have hres : sortF zs = [] := by rw [hnil]; rfl
          have hT : ∃ a1 c1, v1 = .slice a1 0 c1 ∧ Tight w.heap.size w1 (.slice a1 0 0) [] := by
            have hz : zs.length = 0 := HN.out.symm
            rw [hz] at ho1
            rcases ho1.2 with ⟨rfl, _⟩ | ⟨g, cap', cur, rfl, hg0, hg, hc, hm, hs, ht⟩
            · exact ⟨none, 0, rfl, Tight.nil _ _⟩
            · exact ⟨_, cap', rfl, .inr ⟨g, 0, cur.toList, rfl, by simpa [Held] using hg, by omega, Nat.le_refl _, Nat.zero_le _, by simp⟩⟩
          obtain ⟨a1, c1, rfl, hT⟩ := hT
          have HR := Lib.hid hres
          clear hres hnil ho1
          go_wp2_with (first | (go_at_call 39; refine (sort_none _ _ _).mono ?_; rintro e w3 ⟨rfl, rfl⟩) | (go_at_call 42; refine (compact_few _ _ _ (by omega) _).mono ?_; rintro e w3 ⟨rfl, rfl⟩) | (go_at_call 41; refine (clip_any _ _ _ (Nat.zero_le _) _).mono ?_; rintro e w3 ⟨rfl, rfl⟩))
          refine bodyPost_ret (v := .tuple #[.slice a1 0 0, .int .i64 0]) (by simp [results, Try.results24, go_sem]) rfl ⟨.slice a1 0 0, by rw [HT.out], hB1, by rw [HT.out]; show Tight _ _ _ (sortF zs); rw [HR.out]; exact hT⟩
        · have hT : ∃ g c1 sp, v1 = .slice (some ⟨g, 0, none⟩) k c1 ∧ Held w1 g zs sp ∧ wr.heap.size ≤ g ∧ k ≤ c1 ∧ c1 ≤ maxLen := by
            rcases ho1.2 with ⟨_, h⟩ | ⟨g, cap', cur, rfl, hg0, hg, hc, hm, hs, ht⟩
            · exact absurd (HN.out.trans h) h0
            · obtain ⟨sp, h1, h2, h3, h4⟩ := held_of_own ho1
              exact ⟨g, cap', sp, by rw [← HN.out], h1, h3, by rw [HN.out]; exact hc, hm⟩
          obtain ⟨g, c1, sp, rfl, hH, hg, hkc, hcm⟩ := hT
          have hso := sort_any zs g c1 sp w1 hH (by have := HN.out; omega)
          rw [← HN.out] at hso
          have HSO := Lib.hid hso
          have hln : (sortedC zs).length = k := by rw [sortedC_length]; exact HN.out.symm
          have HLN := Lib.hid hln
          have hml : (sortF zs).length ≤ k := by have := sortF_length zs; have := HN.out; omega
          obtain ⟨m, hm⟩ : ∃ m, m = (sortF zs).length := ⟨_, rfl⟩
          rw [← hm] at hml
          have hg1 := hH.lt
          clear hso hln ho1
          go_wp2_with fail
          refine HSO.out.mono ?_
          rintro e w2 ⟨rfl, hH2, hK2⟩
          have hB2 : Below w.heap.size w w2 := hB1.trans (hK2.toBelow (fun i hi => by subst hi; omega) (by omega))
          have hcmp : Calls Try.prog 42 #[.slice (some ⟨g, 0, none⟩) k c1] w2 fun e w' => e = .returned (.slice (some ⟨g, 0, none⟩) m c1) ∧ ∃ sp', Held w' g (sortF zs) sp' ∧ Keeps (fun i => i = g) w2 w' := by
            by_cases h2 : 2 ≤ k
            · have h := compact_any (sortedC zs) g c1 sp w2 hH2 (by rw [HLN.out]; exact h2) (by rw [HLN.out]; exact hkc) hcm
              rw [compact_sorted, HLN.out, ← hm] at h
              exact h
            · have e1 : sortF zs = sortedC zs := by
                rw [← compact_sorted]
                have hl := HLN.out
                match hq : sortedC zs, hl with
                | [x], _ => rfl
                | [], hl => rfl
                | x :: y :: r, hl => simp at hl; omega
              have e2 : m = k := by rw [hm, e1, HLN.out]
              rw [e2, e1]
              exact (compact_few _ _ _ (by omega) _).mono fun e w' ⟨he, hw⟩ => ⟨he, sp, by rw [hw]; exact hH2, by rw [hw]; exact Keeps.refl _ _⟩
          have HCM := Lib.hid hcmp
          have HM := Lib.hid hm
          have hz2 := hK2.size
          clear hcmp hm
          go_wp2_with fail
          refine HCM.out.mono ?_
          rintro e w3 ⟨rfl, sp', hH3, hK3⟩
          have hB3 : Below w.heap.size w w3 := hB2.trans (hK3.toBelow (fun i hi => by subst hi; omega) (by omega))
          go_wp2_with ((go_at_call 41; refine (clip_any _ _ _ (by omega) _).mono ?_; rintro e w4 ⟨rfl, rfl⟩))
          refine bodyPost_ret (v := .tuple #[.slice (some ⟨g, 0, none⟩) m m, .int .i64 0]) (by simp [results, Try.results24, go_sem]) rfl ⟨.slice (some ⟨g, 0, none⟩) m m, by rw [HT.out], hB3, ?_⟩
          rw [HT.out]
          show Tight _ _ _ (sortF zs)
          rw [HM.out]
          exact .inr ⟨g, _, sp', rfl, hH3, by omega, Nat.le_refl _, by have := HM.out; omega, by omega⟩
end Go.Proofs.Ytabhpbkkjijfjaa
