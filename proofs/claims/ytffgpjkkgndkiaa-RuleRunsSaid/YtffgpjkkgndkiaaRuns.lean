/-
  rule.Run and the document's Run: Next, so many times.
-/
import Derived.Test.YtffgpjkkgndkiaaNextRef
namespace Go.Proofs.Ytffgpjkkgndkiaa
set_option maxRecDepth 100000
open Go.RowKit

def runF (b l : Int) (zs : List (Int × Int)) : Nat → List (Int × Int) × Int
  | 0 => tidyF zs
  | n + 1 => if (runF b l zs n).2 = 0 then nextF b l (runF b l zs n).1 else ([], (runF b l zs n).2)
theorem nextF_err (b l : Int) (zs : List (Int × Int)) : (nextF b l zs).2 = 0 ∨ ((nextF b l zs).2 ≠ 0 ∧ (nextF b l zs).1 = []) := by
  unfold nextF
  split
  · exact .inr ⟨by simp, rfl⟩
  · split
    · next h => exact .inr ⟨h, rfl⟩
    · exact tidyF_err _
theorem nextF_length (b l : Int) (zs : List (Int × Int)) : (nextF b l zs).1.length ≤ 4096 := by
  unfold nextF
  split
  · simp
  · split
    · simp
    · exact tidyF_length _
theorem runF_err (b l : Int) (zs : List (Int × Int)) (n : Nat) : (runF b l zs n).2 = 0 ∨ ((runF b l zs n).2 ≠ 0 ∧ (runF b l zs n).1 = []) := by
  cases n with
  | zero => exact tidyF_err _
  | succ n =>
    rw [runF]
    split
    · exact nextF_err _ _ _
    · next h => exact .inr ⟨h, rfl⟩
theorem runF_length (b l : Int) (zs : List (Int × Int)) (n : Nat) : (runF b l zs n).1.length ≤ 4096 := by
  cases n with
  | zero => exact tidyF_length _
  | succ n =>
    rw [runF]
    split
    · exact nextF_length _ _ _
    · simp
theorem runF_stop {b l : Int} {zs : List (Int × Int)} {i : Nat} {xs : List (Int × Int)} {er : Int} (h : (xs, er) = runF b l zs i) (he : er ≠ 0) : ∀ c, runF b l zs (i + c) = ([], er)
  | 0 => by
    rcases runF_err b l zs i with h1 | ⟨_, h1⟩
    · rw [← h] at h1; exact absurd h1 he
    · rw [← h] at h1
      rw [Nat.add_zero, ← h]
      exact Prod.ext h1 rfl
  | c + 1 => by
    rw [← Nat.add_assoc, runF, runF_stop h he c, if_neg he]
def ranF (b l : Int) (zs : List (Int × Int)) (n : Int) : List (Int × Int) × Int :=
  if n < 0 ∨ 256 < n then ([], 3) else if goodF b l = false then ([], 4) else runF b l zs n.toNat
theorem ranF_length (b l : Int) (zs : List (Int × Int)) (n : Int) : (ranF b l zs n).1.length ≤ 4096 := by
  unfold ranF
  split
  · simp
  · split
    · simp
    · exact runF_length _ _ _ _
def Ran (w : World) (b l : Int) (zs : List (Int × Int)) (n : Int) (e : Ending) (w' : World) : Prop :=
  ∃ v, e = .returned (.tuple #[v, .int .i64 (ranF b l zs n).2]) ∧ Below w.heap.size w w' ∧ Tight w.heap.size w' v (ranF b l zs n).1
set_option maxHeartbeats 2000000 in
theorem run_any (rb rl : Int) (zs : List (Int × Int)) (n : Int) (a : Option Addr) (cap : Nat) (w : World) (hs : Sl w 2 16 a zs.length cap (zs.flatMap encCell)) :
    Calls Try.prog 47 #[.agg #[.int .i64 rb, .int .i64 rl], .slice a zs.length cap, .int .i64 n] w (Ran w rb rl zs n) := by
  obtain ⟨q, hq⟩ : ∃ q, q = zs.length := ⟨_, rfl⟩
  by_cases hn0 : n < 0
  · have hres : ranF rb rl zs n = ([], 3) := by rw [ranF, if_pos (.inl hn0)]
    have HR := Lib.hid hres
    rw [← hq]
    clear hres hq hs
    go_enter Try.func47, Try.ntmps47
    go_wp2_with fail
    refine bodyPost_ret (v := .tuple #[.slice none 0 0, .int .i64 3]) (by simp [results, Try.results47, go_sem]) rfl ⟨.slice none 0 0, by rw [HR.out], (Below.refl _ _).alloc (Nat.le_refl _) _, by rw [HR.out]; exact Tight.nil _ _⟩
  by_cases hn1 : 256 < n
  · have hres : ranF rb rl zs n = ([], 3) := by rw [ranF, if_pos (.inr hn1)]
    have HR := Lib.hid hres
    rw [← hq]
    clear hres hq hs
    go_enter Try.func47, Try.ntmps47
    go_wp2_with fail
    refine bodyPost_ret (v := .tuple #[.slice none 0 0, .int .i64 3]) (by simp [results, Try.results47, go_sem]) rfl ⟨.slice none 0 0, by rw [HR.out], (Below.refl _ _).alloc (Nat.le_refl _) _, by rw [HR.out]; exact Tight.nil _ _⟩
  obtain ⟨m, rfl⟩ : ∃ m : Nat, n = m := ⟨n.toNat, by omega⟩
  have hm : m ≤ 256 := by omega
  clear hn0 hn1
  have hgd := fun W => good_any rb rl W
  obtain ⟨g, hg⟩ : ∃ g, g = goodF rb rl := ⟨_, rfl⟩
  rw [← hg] at hgd
  have HGD := Lib.hid hgd
  have HG := Lib.hid hg
  clear hgd hg
  cases g
  · have hres : ranF rb rl zs m = ([], 4) := by rw [ranF, if_neg (by omega), if_pos HG.out.symm]
    have HR := Lib.hid hres
    rw [← hq]
    clear hres hq hs
    go_enter Try.func47, Try.ntmps47
    go_wp2_with fail
    refine (HGD.out _).mono ?_
    rintro e w1 ⟨rfl, hb⟩
    have hB := ((Below.refl w.heap.size w).alloc (Nat.le_refl _) (.cells #[.int .i64 rb, .int .i64 rl] 24)).trans (hb.mono (by simp))
    clear hb
    go_wp2_with fail
    refine bodyPost_ret (v := .tuple #[.slice none 0 0, .int .i64 4]) (by simp [results, Try.results47, go_sem]) rfl ⟨.slice none 0 0, by rw [HR.out], hB, by rw [HR.out]; exact Tight.nil _ _⟩
  · have hres : ranF rb rl zs m = runF rb rl zs m := by rw [ranF, if_neg (by omega), if_neg (by rw [← HG.out]; simp)]; rfl
    have HR := Lib.hid hres
    have T1 := fun W (h : Sl W 2 16 a zs.length cap (zs.flatMap encCell)) => tidy_any zs a cap W h
    unfold Tidied at T1
    obtain ⟨⟨xs, e1⟩, hX⟩ : ∃ R, R = tidyF zs := ⟨_, rfl⟩
    rw [← hX] at T1
    rw [← hq] at T1 hs ⊢
    have HT1 := Lib.hid T1
    have HX0 : Aside ((xs, e1) = runF rb rl zs 0) := hX
    have HS := Lib.hid hs
    clear hres T1 hX hq hs
    go_enter Try.func47, Try.ntmps47
    go_wp2_with fail
    refine (HGD.out _).mono ?_
    rintro e w0 ⟨rfl, hb⟩
    have hB0 := ((Below.refl w.heap.size w).alloc (Nat.le_refl _) (.cells #[.int .i64 rb, .int .i64 rl] 24)).trans (hb.mono (by simp))
    have hr0 := (hb.block w.heap.size (by simp)).trans (blk_last w _ rfl)
    clear hb
    go_wp2_with fail
    refine (HT1.out _ (HS.out.below (by omega) hB0)).mono ?_
    rintro e w1 ⟨v1, rfl, hb1, ht1⟩
    have hB1 := hB0.trans (hb1.mono hB0.size)
    have hr1 := (hb1.block _ (lt_of_block hr0)).trans hr0
    have ht1 := ht1.mono hB0.size
    clear hb1 hB0 hr0
    go_wp2_with fail
    go_loopw [2, 8, 9] (fun n s e wr => ∃ (i c : Nat) (xs : List (Int × Int)) (er : Int), n = .int .i64 c ∧ i + c = m ∧ e = .int .i64 er ∧ Aside ((xs, er) = runF rb rl zs i) ∧ Tight w.heap.size wr s xs ∧ Below w.heap.size w wr ∧ wr.heap[w.heap.size]? = some (.cells #[.int .i64 rb, .int .i64 rl] 24 (0, 0))) (fun n _ _ _ => (intOf n).toNat)
    case atStart => exact ⟨0, m, xs, e1, rfl, by omega, rfl, HX0, ht1, hB1, hr1⟩
    case round =>
      clear ht1 hB1 hr1 HX0
      obtain ⟨i, c, xs, er, rfl, hic, rfl, HX, ht, hB, hr⟩ := hrel
      have hxl : xs.length ≤ 4096 := by have := runF_length rb rl zs i; rw [← HX.out] at this; exact this
      obtain ⟨a1, c1, rfl, _, _⟩ := ht.form
      have HSL := Lib.hid (ht.sl (by omega))
      have HT := Lib.hid ht
      clear ht
      by_cases he : er = 0
      · subst he
        by_cases hc : 0 < c
        · have hdc : decide (0 < (c : Int)) = true := by simp; omega
          have r0 := Joins.cell_of_block hr 0
          have r1 := Joins.cell_of_block hr 1
          simp at r0 r1
          have hN := fun W h => next_any rb rl xs a1 c1 W h
          unfold Nexted at hN
          obtain ⟨⟨ys, e2⟩, hY⟩ : ∃ R, R = nextF rb rl xs := ⟨_, rfl⟩
          rw [← hY] at hN
          have HN := Lib.hid hN
          have HY : Aside ((ys, e2) = runF rb rl zs (i + 1)) := by show _ = _; rw [runF, ← HX.out, if_pos rfl]; exact hY
          obtain ⟨nx, hnx⟩ : ∃ nx, nx = xs.length := ⟨_, rfl⟩
          rw [← hnx] at HN HSL ⊢
          clear hN hY hnx
          go_wp2_with fail
          refine (HN.out _ HSL.out).mono ?_
          rintro e w2 ⟨v2, rfl, hb2, ht2⟩
          have HT2 := Lib.hid (ht2.mono hB.size)
          have hB2 := hB.trans (hb2.mono hB.size)
          have hr2 := (hb2.block _ (lt_of_block hr)).trans hr
          clear ht2 hb2 r0 r1
          go_wp2_with fail
          exact ⟨⟨i + 1, c - 1, ys, e2, by go_num, by omega, rfl, HY, HT2.out, hB2, hr2⟩, by simp [intOf]; omega⟩
        · have hdc : decide (0 < (c : Int)) = false := by simp; omega
          have HR2 : Aside (ranF rb rl zs m = (xs, 0)) := by show _ = _; rw [HR.out, HX.out, show i = m by omega]
          obtain ⟨nx, hnx⟩ : ∃ nx, nx = xs.length := ⟨_, rfl⟩
          rw [← hnx] at HSL HT ⊢
          clear hnx
          go_wp2_with fail
          refine bodyPost_ret (v := .tuple #[.slice a1 nx c1, .int .i64 0]) (by simp [results, Try.results47, go_sem]) rfl ⟨.slice a1 nx c1, by rw [HR2.out], hB, by rw [HR2.out]; exact HT.out⟩
      · have hz : (er == 0) = false := by simp [he]
        have HR2 : Aside (ranF rb rl zs m = ([], er)) := by show _ = _; rw [HR.out, ← hic]; exact runF_stop HX.out he c
        by_cases hc : 0 < c
        · have hdc : decide (0 < (c : Int)) = true := by simp; omega
          go_wp2_with fail
          refine bodyPost_ret (v := .tuple #[.slice none 0 0, .int .i64 er]) (by simp [results, Try.results47, go_sem]) rfl ⟨.slice none 0 0, by rw [HR2.out], hB, by rw [HR2.out]; exact Tight.nil _ _⟩
        · have hdc : decide (0 < (c : Int)) = false := by simp; omega
          go_wp2_with fail
          refine bodyPost_ret (v := .tuple #[.slice none 0 0, .int .i64 er]) (by simp [results, Try.results47, go_sem]) rfl ⟨.slice none 0 0, by rw [HR2.out], hB, by rw [HR2.out]; exact Tight.nil _ _⟩
set_option maxHeartbeats 2000000 in
theorem refRunN_any (rb rl : Int) (zs : List (Int × Int)) (a : Option Addr) (cap : Nat) : ∀ (m : Nat), m ≤ 256 → ∀ (w : World), Sl w 2 16 a zs.length cap (zs.flatMap encCell) →
    Calls Try.prog 48 #[.agg #[.int .i64 rb, .int .i64 rl], .slice a zs.length cap, .int .i64 m] w (Ran w rb rl zs m) := by
  intro m
  obtain ⟨q, hq⟩ : ∃ q, q = zs.length := ⟨_, rfl⟩
  have hgd := fun W => refGood_any rb rl W
  obtain ⟨g, hg⟩ : ∃ g, g = goodF rb rl := ⟨_, rfl⟩
  rw [← hg] at hgd
  have HGD := Lib.hid hgd
  have HG := Lib.hid hg
  clear hgd hg
  cases g
  · intro hm w hs
    have hres : ranF rb rl zs m = ([], 4) := by rw [ranF, if_neg (by omega), if_pos HG.out.symm]
    have HR := Lib.hid hres
    rw [← hq]
    clear hres hq hs
    go_enter Try.func48, Try.ntmps48
    go_wp2_with fail
    refine (HGD.out _).mono ?_
    rintro e w1 ⟨rfl, hb⟩
    have hB := ((Below.refl w.heap.size w).alloc (Nat.le_refl _) (.cells #[.int .i64 rb, .int .i64 rl] 24)).trans (hb.mono (by simp))
    clear hb
    go_wp2_with fail
    refine bodyPost_ret (v := .tuple #[.slice none 0 0, .int .i64 4]) (by simp [results, Try.results48, go_sem]) rfl ⟨.slice none 0 0, by rw [HR.out], hB, by rw [HR.out]; exact Tight.nil _ _⟩
  · induction m with
    | zero =>
      intro hm w hs
      have hres : ranF rb rl zs (0 : Nat) = tidyF zs := by rw [ranF, if_neg (by omega), if_neg (by rw [← HG.out]; simp)]; rfl
      have T1 := fun W (h : Sl W 2 16 a zs.length cap (zs.flatMap encCell)) => refTidy_any zs a cap W h
      unfold Tidied at T1
      obtain ⟨⟨xs, e1⟩, hX⟩ : ∃ R, R = tidyF zs := ⟨_, rfl⟩
      rw [← hX] at T1 hres
      rw [← hq] at T1 hs ⊢
      have HT1 := Lib.hid T1
      have HR := Lib.hid hres
      have HS := Lib.hid hs
      rw [show ((0 : Nat) : Int) = 0 from rfl] at HR ⊢
      clear hres T1 hX hq hs
      go_enter Try.func48, Try.ntmps48
      go_wp2_with fail
      refine (HGD.out _).mono ?_
      rintro e w0 ⟨rfl, hb⟩
      have hB0 := ((Below.refl w.heap.size w).alloc (Nat.le_refl _) (.cells #[.int .i64 rb, .int .i64 rl] 24)).trans (hb.mono (by simp))
      clear hb
      go_wp2_with fail
      refine (HT1.out _ (HS.out.below (by omega) hB0)).mono ?_
      rintro e w1 ⟨v1, rfl, hb1, ht1⟩
      have hB1 := hB0.trans (hb1.mono hB0.size)
      have HT := Lib.hid (ht1.mono hB0.size)
      clear hb1 hB0 ht1
      go_wp2_with fail
      refine bodyPost_ret (v := .tuple #[v1, .int .i64 e1]) (by simp [results, Try.results48, go_sem]) rfl ⟨v1, by rw [HR.out], hB1, by rw [HR.out]; exact HT.out⟩
    | succ m ih =>
      intro hm w hs
      have ih := ih (by omega)
      have hres0 : ranF rb rl zs m = runF rb rl zs m := by rw [ranF, if_neg (by omega), if_neg (by rw [← HG.out]; simp)]; rfl
      have hres : ranF rb rl zs (m + 1 : Nat) = runF rb rl zs (m + 1) := by rw [ranF, if_neg (by omega), if_neg (by rw [← HG.out]; simp)]; rfl
      unfold Ran at ih
      rw [hres0] at ih
      obtain ⟨⟨xs, er⟩, hX⟩ : ∃ R, R = runF rb rl zs m := ⟨_, rfl⟩
      have hxl : xs.length ≤ 4096 := by have := runF_length rb rl zs m; rw [← hX] at this; exact this
      rw [← hX] at ih
      obtain ⟨n, hn⟩ : ∃ n : Int, n = (m + 1 : Nat) := ⟨_, rfl⟩
      rw [← hn] at hres ⊢
      have hn0 : 0 < n := by omega
      have hn2 : n ≤ 256 := by omega
      have hz0 : (n == 0) = false := by simp; omega
      have hnm : n - 1 = (m : Int) := by omega
      rw [← hq] at ih hs ⊢
      have HIH := Lib.hid ih
      have HR := Lib.hid hres
      have HS := Lib.hid hs
      have HX := Lib.hid hX
      clear hres hres0 hX hq hs hn ih
      go_enter Try.func48, Try.ntmps48
      go_wp2_with fail
      refine (HGD.out _).mono ?_
      rintro e w0 ⟨rfl, hb⟩
      have hB0 := ((Below.refl w.heap.size w).alloc (Nat.le_refl _) (.cells #[.int .i64 rb, .int .i64 rl] 24)).trans (hb.mono (by simp))
      have hr0 := (hb.block w.heap.size (by simp)).trans (blk_last w _ rfl)
      have r0 := Joins.cell_of_block hr0 0
      have r1 := Joins.cell_of_block hr0 1
      simp at r0 r1
      clear hb
      go_wp2_with fail
      refine (HIH.out _ (HS.out.below (by omega) hB0)).mono ?_
      rintro e w1 ⟨v1, rfl, hb1, ht1⟩
      have hB1 := hB0.trans (hb1.mono hB0.size)
      have hr1 := (hb1.block _ (lt_of_block hr0)).trans hr0
      clear r0 r1
      have r0 := Joins.cell_of_block hr1 0
      have r1 := Joins.cell_of_block hr1 1
      simp at r0 r1
      obtain ⟨a1, c1, rfl, _, _⟩ := ht1.form
      have HSL := Lib.hid (ht1.sl (by omega))
      clear hb1 hB0 hr0 ht1
      by_cases he : er = 0
      · subst he
        have hN := fun W h => refNext_any rb rl xs a1 c1 W h
        unfold Nexted at hN
        obtain ⟨⟨ys, e2⟩, hY⟩ : ∃ R, R = nextF rb rl xs := ⟨_, rfl⟩
        rw [← hY] at hN
        have HN := Lib.hid hN
        have HR2 : Aside (ranF rb rl zs n = (ys, e2)) := by show _ = _; rw [HR.out, runF, ← HX.out, if_pos rfl]; exact hY.symm
        obtain ⟨nx, hnx⟩ : ∃ nx, nx = xs.length := ⟨_, rfl⟩
        rw [← hnx] at HN HSL ⊢
        clear hN hY hnx
        go_wp2_with fail
        refine (HN.out _ HSL.out).mono ?_
        rintro e w2 ⟨v2, rfl, hb2, ht2⟩
        have HT2 := Lib.hid (ht2.mono hB1.size)
        have hB2 := hB1.trans (hb2.mono hB1.size)
        clear ht2 hb2 r0 r1
        go_wp2_with fail
        refine bodyPost_ret (v := .tuple #[v2, .int .i64 e2]) (by simp [results, Try.results48, go_sem]) rfl ⟨v2, by rw [HR2.out], hB2, by rw [HR2.out]; exact HT2.out⟩
      · have hz : (er == 0) = false := by simp [he]
        have HR2 : Aside (ranF rb rl zs n = ([], er)) := by show _ = _; rw [HR.out]; exact runF_stop HX.out he 1
        go_wp2_with fail
        refine bodyPost_ret (v := .tuple #[.slice none 0 0, .int .i64 er]) (by simp [results, Try.results48, go_sem]) rfl ⟨.slice none 0 0, by rw [HR2.out], hB1, by rw [HR2.out]; exact Tight.nil _ _⟩
set_option maxHeartbeats 1000000 in
theorem refRun_any (rb rl : Int) (zs : List (Int × Int)) (n : Int) (a : Option Addr) (cap : Nat) (w : World) (hs : Sl w 2 16 a zs.length cap (zs.flatMap encCell)) :
    Calls Try.prog 48 #[.agg #[.int .i64 rb, .int .i64 rl], .slice a zs.length cap, .int .i64 n] w (Ran w rb rl zs n) := by
  by_cases hin : 0 ≤ n ∧ n ≤ 256
  · obtain ⟨m, rfl⟩ : ∃ m : Nat, n = m := ⟨n.toNat, by omega⟩
    exact refRunN_any rb rl zs a cap m (by omega) w hs
  obtain ⟨q, hq⟩ : ∃ q, q = zs.length := ⟨_, rfl⟩
  have hres : ranF rb rl zs n = ([], 3) := by rw [ranF, if_pos (by omega)]
  have HR := Lib.hid hres
  rw [← hq]
  clear hres hq hs
  rcases (show n < 0 ∨ (0 ≤ n ∧ 256 < n) by omega) with h | ⟨h0, h⟩ <;> clear hin
  all_goals
    go_enter Try.func48, Try.ntmps48
    go_wp2_with fail
    refine bodyPost_ret (v := .tuple #[.slice none 0 0, .int .i64 3]) (by simp [results, Try.results48, go_sem]) rfl ⟨.slice none 0 0, by rw [HR.out], (Below.refl _ _).alloc (Nat.le_refl _) _, by rw [HR.out]; exact Tight.nil _ _⟩
end Go.Proofs.Ytffgpjkkgndkiaa
