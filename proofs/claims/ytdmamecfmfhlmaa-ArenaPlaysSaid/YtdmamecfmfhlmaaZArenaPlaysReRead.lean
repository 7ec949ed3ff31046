/-
  ref.Store's person, Count, Level, Kids.
-/
import Derived.Test.YtdmamecfmfhlmaaZArenaPlays25
namespace Go.Proofs.Ytdmamecfmfhlmaa
set_option maxRecDepth 100000
open Go.RowKit

set_option maxHeartbeats 1000000 in
theorem person_any (t : Int) (w : World) : Calls Try.prog 88 #[.int .i64 t] w fun e w' => e = .returned (.bool (tenB t)) ∧ w' = w := by
  rcases (show t < 0 ∨ 63 < t ∨ (0 ≤ t ∧ t < 64) by omega) with h | h | h
  · have h1 : decide (t ≥ 0) = false := decide_eq_false (by omega)
    have h2 : decide (0 ≤ t) = false := decide_eq_false (by omega)
    rw [tenB_out (.inl h)]
    go_enter Try.func88, Try.ntmps88
    go_wp2_with fail
    go_ret
    exact ⟨rfl, rfl⟩
  · have h1 : decide (t ≥ 0) = true := decide_eq_true (by omega)
    have h2 : decide (0 ≤ t) = true := decide_eq_true (by omega)
    have h3 : decide (t ≤ 63) = false := decide_eq_false (by omega)
    rw [tenB_out (.inr (by omega))]
    go_enter Try.func88, Try.ntmps88
    go_wp2_with fail
    go_ret
    exact ⟨rfl, rfl⟩
  · have h1 : decide (t ≥ 0) = true := decide_eq_true (by omega)
    have h2 : decide (0 ≤ t) = true := decide_eq_true (by omega)
    have h3 : decide (t ≤ 63) = true := decide_eq_true (by omega)
    have e : tenB t = true := by
      obtain ⟨k, rfl⟩ : ∃ k : Nat, t = k := ⟨t.toNat, by omega⟩
      exact tenB_in (by omega)
    rw [e]
    go_enter Try.func88, Try.ntmps88
    go_wp2_with fail
    go_ret
    exact ⟨rfl, rfl⟩
theorem person_in (t : Nat) (h : t < 64) (w : World) : Calls Try.prog 88 #[.int .i64 t] w fun e w' => e = .returned (.bool true) ∧ w' = w := by
  have := person_any t w
  rwa [tenB_in h] at this
theorem person_out (t : Int) (h : t < 0 ∨ 64 ≤ t) (w : World) : Calls Try.prog 88 #[.int .i64 t] w fun e w' => e = .returned (.bool false) ∧ w' = w := by
  have := person_any t w
  rwa [tenB_out h] at this
def levelR (S : RSt) (t id : Int) : Int × Int := if tenB t = true then (if (ownR S.T t.toNat id 0).2 = true then ((ownR S.T t.toNat id 0).1.2.lv, 0) else (0, 6)) else (0, 6)
set_option maxHeartbeats 2000000 in
theorem levelR_any (b : Nat) (S : RSt) (arr : Array Value) (v1 : Value) (vs : List Value) (F : Nat → Prop) (t id : Int) (w : World) (h : ReAt b S arr v1 vs w F) :
    Calls Try.prog 60 #[.pointer (some ⟨b, 0, none⟩), .int .i64 t, .int .i64 id] w fun e w' => e = .returned (.tuple #[.int .i64 (levelR S t id).1, .int .i64 (levelR S t id).2]) ∧ Below w.heap.size w w' := by
  rcases ten_cases t with ⟨k, hk, rfl⟩ | ht
  · have HT := Lib.hid (person_in k hk)
    have HO := Lib.hid (owned_any b S arr v1 vs F k id 0 w h hk)
    unfold levelR
    rw [tenB_in hk, if_pos rfl, Int.toNat_natCast]
    obtain ⟨p, hp⟩ : ∃ p, p = ownR S.T k id 0 := ⟨_, rfl⟩
    rw [← hp] at HO ⊢
    obtain ⟨⟨pi, xk, xa, xb, xc, xd, xl, xv, xm⟩, ok⟩ := p
    unfold thingV at HO
    simp only at HO ⊢
    clear hp h
    cases ok with
    | false =>
      rw [if_neg (by decide)]
      go_enter Try.func60, Try.ntmps60
      go_wp2_with fail
      refine (HT.out _).mono ?_
      rintro e w1 ⟨rfl, rfl⟩
      go_wp2_with fail
      with_reducible refine HO.out.mono ?_
      rintro e w2 ⟨rfl, hb⟩
      go_wp2_with fail
      refine bodyPost_ret ?_ rfl ⟨rfl, hb.alloc hb.size _⟩
      simp [results, Try.results60, go_sem]
    | true =>
      rw [if_pos rfl]
      go_enter Try.func60, Try.ntmps60
      go_wp2_with fail
      refine (HT.out _).mono ?_
      rintro e w1 ⟨rfl, rfl⟩
      go_wp2_with fail
      with_reducible refine HO.out.mono ?_
      rintro e w2 ⟨rfl, hb⟩
      go_wp2_with fail
      refine bodyPost_ret ?_ rfl ⟨rfl, hb.alloc hb.size _⟩
      simp [results, Try.results60, go_sem]
  · have HT := Lib.hid (person_out t ht)
    have e : levelR S t id = (0, 6) := by unfold levelR; rw [tenB_out ht]; rfl
    rw [e]
    clear h e
    go_enter Try.func60, Try.ntmps60
    go_wp2_with fail
    refine (HT.out _).mono ?_
    rintro e w1 ⟨rfl, rfl⟩
    go_wp2_with fail
    refine bodyPost_ret ?_ rfl ⟨rfl, Below.refl _ _⟩
    simp [results, Try.results60, go_sem]
def kidsR (S : RSt) (t id : Int) : (Int × Int × Int × Int) × Int := if tenB t = true ∧ 1 < id then (if (ownR S.T t.toNat id 0).2 = true then (((ownR S.T t.toNat id 0).1.2.a, (ownR S.T t.toNat id 0).1.2.b, (ownR S.T t.toNat id 0).1.2.c, (ownR S.T t.toNat id 0).1.2.d), 0) else ((0, 0, 0, 0), 6)) else ((0, 0, 0, 0), 6)
set_option maxHeartbeats 2000000 in
theorem kidsR_any (b : Nat) (S : RSt) (arr : Array Value) (v1 : Value) (vs : List Value) (F : Nat → Prop) (t id : Int) (w : World) (h : ReAt b S arr v1 vs w F) :
    Calls Try.prog 59 #[.pointer (some ⟨b, 0, none⟩), .int .i64 t, .int .i64 id] w fun e w' => e = .returned (.tuple #[fourV (kidsR S t id).1, .int .i64 (kidsR S t id).2]) ∧ Below w.heap.size w w' := by
  have hw1 : Below w.heap.size w (w.alloc (.cells #[.int .i64 0, .int .i64 0, .int .i64 0, .int .i64 0] 61)) := (Below.refl _ _).alloc (Nat.le_refl _) _
  have HB := Lib.hid hw1
  rcases ten_cases t with ⟨k, hk, rfl⟩ | ht
  · have HT := Lib.hid (person_in k hk)
    by_cases h2 : 1 < id
    · have g1 : decide (id > 1) = true := decide_eq_true h2
      have g2 : decide (1 < id) = true := decide_eq_true h2
      have HO := Lib.hid (owned_any b S arr v1 vs F k id 0 _ (h.below hw1) hk)
      unfold kidsR
      rw [if_pos ⟨tenB_in hk, h2⟩, Int.toNat_natCast]
      obtain ⟨p, hp⟩ : ∃ p, p = ownR S.T k id 0 := ⟨_, rfl⟩
      rw [← hp] at HO ⊢
      obtain ⟨⟨pi, xk, xa, xb, xc, xd, xl, xv, xm⟩, ok⟩ := p
      unfold thingV at HO
      simp only at HO ⊢
      obtain ⟨X, hX⟩ : ∃ X, X = w.alloc (.cells #[.int .i64 0, .int .i64 0, .int .i64 0, .int .i64 0] 61) := ⟨_, rfl⟩
      have hown : X.heap[w.heap.size]? = some (.cells #[.int .i64 0, .int .i64 0, .int .i64 0, .int .i64 0] 61 (0, 0)) := by rw [hX]; exact blk_last w _ rfl
      have hz : w.heap.size < X.heap.size := by rw [hX]; simp
      rw [← hX] at HO HB
      have HX := Lib.hid hX
      have HOW := Lib.hid hown
      clear hp h hw1 hX hown
      cases ok with
      | false =>
        rw [if_neg (by decide)]
        go_enter Try.func59, Try.ntmps59
        go_wp2_with fail
        refine (HT.out _).mono ?_
        rintro e w1 ⟨rfl, rfl⟩
        go_wp2_with fail
        rw [← HX.out]
        with_reducible refine HO.out.mono ?_
        rintro e w2 ⟨rfl, hb⟩
        have hw2 := (hb.block _ hz).trans HOW.out
        have hw3 := blk_alloc hw2 (.cells #[.int .i64 pi, .int .i64 xk, .int .i64 xl, .int .i64 xv, .int .i64 xa, .int .i64 xb, .int .i64 xc, .int .i64 xd, .int .u64 xm] 118)
        have r0 := Joins.cell_of_block hw3 0
        have r1 := Joins.cell_of_block hw3 1
        have r2 := Joins.cell_of_block hw3 2
        have r3 := Joins.cell_of_block hw3 3
        have rf := Joins.unfrozen_of_block hw3
        simp at r0 r1 r2 r3
        have HB2 := Lib.hid hb
        have HW3 := Lib.hid hw3
        clear hb hw2 hw3
        go_wp2_with fail
        have h4 := set4 HW3.out (b0 := .int .i64 0) (b1 := .int .i64 0) (b2 := .int .i64 0) (b3 := .int .i64 0)
        have hb5 : Below w.heap.size w (w2.alloc (.cells #[.int .i64 pi, .int .i64 xk, .int .i64 xl, .int .i64 xv, .int .i64 xa, .int .i64 xb, .int .i64 xc, .int .i64 xd, .int .u64 xm] 118)) := (HB.out.trans (HB2.out.mono HB.out.size)).alloc (Nat.le_trans HB.out.size HB2.out.size) _
        have hb6 := (((hb5.setCell (p := ⟨w.heap.size, 0, none⟩) (Nat.le_refl _) (.int .i64 0)).setCell (p := ⟨w.heap.size, 1, none⟩) (Nat.le_refl _) (.int .i64 0)).setCell (p := ⟨w.heap.size, 2, none⟩) (Nat.le_refl _) (.int .i64 0)).setCell (p := ⟨w.heap.size, 3, none⟩) (Nat.le_refl _) (.int .i64 0)
        obtain ⟨V, hV⟩ : ∃ V, V = ((((w2.alloc (.cells #[.int .i64 pi, .int .i64 xk, .int .i64 xl, .int .i64 xv, .int .i64 xa, .int .i64 xb, .int .i64 xc, .int .i64 xd, .int .u64 xm] 118)).setCell ⟨w.heap.size, 0, none⟩ (.int .i64 0)).setCell ⟨w.heap.size, 1, none⟩ (.int .i64 0)).setCell ⟨w.heap.size, 2, none⟩ (.int .i64 0)).setCell ⟨w.heap.size, 3, none⟩ (.int .i64 0) := ⟨_, rfl⟩
        rw [← hV] at h4 hb6 ⊢
        have s0 := Joins.cell_of_block h4 0
        have s1 := Joins.cell_of_block h4 1
        have s2 := Joins.cell_of_block h4 2
        have s3 := Joins.cell_of_block h4 3
        simp at s0 s1 s2 s3
        refine bodyPost_ret ?_ rfl ⟨rfl, hb6⟩
        simp [results, Try.results59, go_sem, fourV, s0, s1, s2, s3]
      | true =>
        rw [if_pos rfl]
        go_enter Try.func59, Try.ntmps59
        go_wp2_with fail
        refine (HT.out _).mono ?_
        rintro e w1 ⟨rfl, rfl⟩
        go_wp2_with fail
        rw [← HX.out]
        with_reducible refine HO.out.mono ?_
        rintro e w2 ⟨rfl, hb⟩
        have hw2 := (hb.block _ hz).trans HOW.out
        have hw3 := blk_alloc hw2 (.cells #[.int .i64 pi, .int .i64 xk, .int .i64 xl, .int .i64 xv, .int .i64 xa, .int .i64 xb, .int .i64 xc, .int .i64 xd, .int .u64 xm] 118)
        have r0 := Joins.cell_of_block hw3 0
        have r1 := Joins.cell_of_block hw3 1
        have r2 := Joins.cell_of_block hw3 2
        have r3 := Joins.cell_of_block hw3 3
        have rf := Joins.unfrozen_of_block hw3
        simp at r0 r1 r2 r3
        have HB2 := Lib.hid hb
        have HW3 := Lib.hid hw3
        clear hb hw2 hw3
        go_wp2_with fail
        have h4 := set4 HW3.out (b0 := .int .i64 xa) (b1 := .int .i64 xb) (b2 := .int .i64 xc) (b3 := .int .i64 xd)
        have hb5 : Below w.heap.size w (w2.alloc (.cells #[.int .i64 pi, .int .i64 xk, .int .i64 xl, .int .i64 xv, .int .i64 xa, .int .i64 xb, .int .i64 xc, .int .i64 xd, .int .u64 xm] 118)) := (HB.out.trans (HB2.out.mono HB.out.size)).alloc (Nat.le_trans HB.out.size HB2.out.size) _
        have hb6 := (((hb5.setCell (p := ⟨w.heap.size, 0, none⟩) (Nat.le_refl _) (.int .i64 xa)).setCell (p := ⟨w.heap.size, 1, none⟩) (Nat.le_refl _) (.int .i64 xb)).setCell (p := ⟨w.heap.size, 2, none⟩) (Nat.le_refl _) (.int .i64 xc)).setCell (p := ⟨w.heap.size, 3, none⟩) (Nat.le_refl _) (.int .i64 xd)
        obtain ⟨V, hV⟩ : ∃ V, V = ((((w2.alloc (.cells #[.int .i64 pi, .int .i64 xk, .int .i64 xl, .int .i64 xv, .int .i64 xa, .int .i64 xb, .int .i64 xc, .int .i64 xd, .int .u64 xm] 118)).setCell ⟨w.heap.size, 0, none⟩ (.int .i64 xa)).setCell ⟨w.heap.size, 1, none⟩ (.int .i64 xb)).setCell ⟨w.heap.size, 2, none⟩ (.int .i64 xc)).setCell ⟨w.heap.size, 3, none⟩ (.int .i64 xd) := ⟨_, rfl⟩
        rw [← hV] at h4 hb6 ⊢
        have s0 := Joins.cell_of_block h4 0
        have s1 := Joins.cell_of_block h4 1
        have s2 := Joins.cell_of_block h4 2
        have s3 := Joins.cell_of_block h4 3
        simp at s0 s1 s2 s3
        refine bodyPost_ret ?_ rfl ⟨rfl, hb6⟩
        simp [results, Try.results59, go_sem, fourV, s0, s1, s2, s3]
    · have g1 : decide (id > 1) = false := decide_eq_false h2
      have g2 : decide (1 < id) = false := decide_eq_false h2
      have e : kidsR S k id = ((0, 0, 0, 0), 6) := by unfold kidsR; rw [if_neg (fun e => h2 e.2)]
      rw [e]
      clear h e hw1
      go_enter Try.func59, Try.ntmps59
      go_wp2_with fail
      refine (HT.out _).mono ?_
      rintro e w1 ⟨rfl, rfl⟩
      go_wp2_with fail
      refine bodyPost_ret (v := .tuple #[.agg #[.int .i64 0, .int .i64 0, .int .i64 0, .int .i64 0], .int .i64 6]) (by simp [results, Try.results59, go_sem]) rfl ⟨rfl, HB.out⟩
  · have HT := Lib.hid (person_out t ht)
    have e : kidsR S t id = ((0, 0, 0, 0), 6) := by unfold kidsR; rw [tenB_out ht, if_neg (by simp)]
    rw [e]
    clear h e hw1
    go_enter Try.func59, Try.ntmps59
    go_wp2_with fail
    refine (HT.out _).mono ?_
    rintro e w1 ⟨rfl, rfl⟩
    go_wp2_with fail
    refine bodyPost_ret (v := .tuple #[.agg #[.int .i64 0, .int .i64 0, .int .i64 0, .int .i64 0], .int .i64 6]) (by simp [results, Try.results59, go_sem]) rfl ⟨rfl, HB.out⟩
end Go.Proofs.Ytdmamecfmfhlmaa
