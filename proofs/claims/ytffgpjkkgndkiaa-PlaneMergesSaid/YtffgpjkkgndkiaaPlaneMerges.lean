/-
  For all pairs of lists, Union, Both and Minus answer what the document's answer; no condition.
-/
import Derived.Test.YtffgpjkkgndkiaaMerge
namespace Go.Proofs.Ytffgpjkkgndkiaa
set_option maxRecDepth 100000
open Go.RowKit

theorem keeper_ref_or : Keeper 93 (fun _ _ => true) := fun a b W => by
  go_enter Try.func93, Try.ntmps93
  go_wp2_with fail
  go_ret
  exact ⟨rfl, rfl⟩
theorem keeper_ref_and : Keeper 95 (fun a b => a && b) := fun a b W => by
  cases a <;> cases b <;>
  · go_enter Try.func95, Try.ntmps95
    go_wp2_with fail
    go_ret
    exact ⟨rfl, rfl⟩
theorem keeper_ref_minus : Keeper 97 (fun _ b => !b) := fun a b W => by
  cases b <;>
  · go_enter Try.func97, Try.ntmps97
    go_wp2_with fail
    go_ret
    exact ⟨rfl, rfl⟩
def keepOr : Bool → Bool → Bool := fun a b => a || b
def keepAnd : Bool → Bool → Bool := fun a b => a && b
def keepMinus : Bool → Bool → Bool := fun a b => a && !b
theorem picked_of {w w' : World} {keep : Bool → Bool → Bool} {zs ms : List (Int × Int)} {e : Ending} {r : List (Int × Int)} {er : Int} (hr : (r, er) = mergeF keep zs ms) (h : Picked w keep zs ms e w') :
    ∃ a c, e = .returned (.tuple #[.slice a r.length c, .int .i64 er]) ∧ Below w.heap.size w w' ∧ Tight w.heap.size w' (.slice a r.length c) r := by
  obtain ⟨v, he, hb, ht⟩ := h
  rw [← hr] at he ht
  obtain ⟨a, c, rfl, _, _⟩ := ht.form
  exact ⟨a, c, he, hb, ht⟩
theorem mergeF_length (keep : Bool → Bool → Bool) (zs ms : List (Int × Int)) : (mergeF keep zs ms).1.length ≤ 4096 := by
  unfold mergeF
  split
  · simp
  · split
    · simp
    · split
      · simp
      · simp only; omega
set_option maxHeartbeats 1000000 in
theorem goUnion_any (zs ms : List (Int × Int)) (a a' : Option Addr) (cap cap' : Nat) (w : World) (hs : Sl w 2 16 a zs.length cap (zs.flatMap encCell)) (hs' : Sl w 2 16 a' ms.length cap' (ms.flatMap encCell)) :
    Calls Try.prog 41 #[.slice a zs.length cap, .slice a' ms.length cap'] w (Picked w keepOr zs ms) := by
  have hc := fun W h1 h2 => pick_any 91 keepOr keeper_or (.inl rfl) zs ms a a' cap cap' W h1 h2
  obtain ⟨⟨r, er⟩, hR⟩ : ∃ R, R = mergeF keepOr zs ms := ⟨_, rfl⟩
  have HC := Lib.hid hc
  have HR := Lib.hid hR
  have HS := Lib.hid hs
  have HS' := Lib.hid hs'
  obtain ⟨n, hn⟩ : ∃ n, n = zs.length := ⟨_, rfl⟩
  obtain ⟨m, hm⟩ : ∃ m, m = ms.length := ⟨_, rfl⟩
  rw [← hn] at HS HC ⊢
  rw [← hm] at HS' HC ⊢
  clear hc hR hs hs' hn hm
  go_enter Try.func41, Try.ntmps41
  go_wp2_with fail
  refine (HC.out _ HS.out HS'.out).mono ?_
  intro e w2 h2
  obtain ⟨a2, c2, rfl, hb2, ht2⟩ := picked_of HR.out h2
  have HT := Lib.hid ht2
  clear h2 ht2
  go_wp2_with fail
  refine bodyPost_ret (v := .tuple #[.slice a2 r.length c2, .int .i64 er]) (by simp [results, Try.results41, go_sem]) rfl ⟨.slice a2 r.length c2, by rw [← HR.out], hb2, by rw [← HR.out]; exact HT.out⟩
set_option maxHeartbeats 1000000 in
theorem goBoth_any (zs ms : List (Int × Int)) (a a' : Option Addr) (cap cap' : Nat) (w : World) (hs : Sl w 2 16 a zs.length cap (zs.flatMap encCell)) (hs' : Sl w 2 16 a' ms.length cap' (ms.flatMap encCell)) :
    Calls Try.prog 43 #[.slice a zs.length cap, .slice a' ms.length cap'] w (Picked w keepAnd zs ms) := by
  have hc := fun W h1 h2 => pick_any 94 keepAnd keeper_and (.inr (.inl rfl)) zs ms a a' cap cap' W h1 h2
  obtain ⟨⟨r, er⟩, hR⟩ : ∃ R, R = mergeF keepAnd zs ms := ⟨_, rfl⟩
  have HC := Lib.hid hc
  have HR := Lib.hid hR
  have HS := Lib.hid hs
  have HS' := Lib.hid hs'
  obtain ⟨n, hn⟩ : ∃ n, n = zs.length := ⟨_, rfl⟩
  obtain ⟨m, hm⟩ : ∃ m, m = ms.length := ⟨_, rfl⟩
  rw [← hn] at HS HC ⊢
  rw [← hm] at HS' HC ⊢
  clear hc hR hs hs' hn hm
  go_enter Try.func43, Try.ntmps43
  go_wp2_with fail
  refine (HC.out _ HS.out HS'.out).mono ?_
  intro e w2 h2
  obtain ⟨a2, c2, rfl, hb2, ht2⟩ := picked_of HR.out h2
  have HT := Lib.hid ht2
  clear h2 ht2
  go_wp2_with fail
  refine bodyPost_ret (v := .tuple #[.slice a2 r.length c2, .int .i64 er]) (by simp [results, Try.results43, go_sem]) rfl ⟨.slice a2 r.length c2, by rw [← HR.out], hb2, by rw [← HR.out]; exact HT.out⟩
set_option maxHeartbeats 1000000 in
theorem goMinus_any (zs ms : List (Int × Int)) (a a' : Option Addr) (cap cap' : Nat) (w : World) (hs : Sl w 2 16 a zs.length cap (zs.flatMap encCell)) (hs' : Sl w 2 16 a' ms.length cap' (ms.flatMap encCell)) :
    Calls Try.prog 45 #[.slice a zs.length cap, .slice a' ms.length cap'] w (Picked w keepMinus zs ms) := by
  have hc := fun W h1 h2 => pick_any 96 keepMinus keeper_minus (.inr (.inr rfl)) zs ms a a' cap cap' W h1 h2
  obtain ⟨⟨r, er⟩, hR⟩ : ∃ R, R = mergeF keepMinus zs ms := ⟨_, rfl⟩
  have HC := Lib.hid hc
  have HR := Lib.hid hR
  have HS := Lib.hid hs
  have HS' := Lib.hid hs'
  obtain ⟨n, hn⟩ : ∃ n, n = zs.length := ⟨_, rfl⟩
  obtain ⟨m, hm⟩ : ∃ m, m = ms.length := ⟨_, rfl⟩
  rw [← hn] at HS HC ⊢
  rw [← hm] at HS' HC ⊢
  clear hc hR hs hs' hn hm
  go_enter Try.func45, Try.ntmps45
  go_wp2_with fail
  refine (HC.out _ HS.out HS'.out).mono ?_
  intro e w2 h2
  obtain ⟨a2, c2, rfl, hb2, ht2⟩ := picked_of HR.out h2
  have HT := Lib.hid ht2
  clear h2 ht2
  go_wp2_with fail
  refine bodyPost_ret (v := .tuple #[.slice a2 r.length c2, .int .i64 er]) (by simp [results, Try.results45, go_sem]) rfl ⟨.slice a2 r.length c2, by rw [← HR.out], hb2, by rw [← HR.out]; exact HT.out⟩
set_option maxHeartbeats 1000000 in
theorem refUnion_any (zs ms : List (Int × Int)) (a a' : Option Addr) (cap cap' : Nat) (w : World) (hs : Sl w 2 16 a zs.length cap (zs.flatMap encCell)) (hs' : Sl w 2 16 a' ms.length cap' (ms.flatMap encCell)) :
    Calls Try.prog 42 #[.slice a zs.length cap, .slice a' ms.length cap'] w (Picked w keepOr zs ms) := by
  have hc := fun W h1 h2 => merge_any 93 (fun _ _ => true) keepOr (by intro a b h; cases a <;> cases b <;> simp_all [keepOr]) keeper_ref_or (.inl rfl) zs ms a a' cap cap' W h1 h2
  obtain ⟨⟨r, er⟩, hR⟩ : ∃ R, R = mergeF keepOr zs ms := ⟨_, rfl⟩
  have HC := Lib.hid hc
  have HR := Lib.hid hR
  have HS := Lib.hid hs
  have HS' := Lib.hid hs'
  obtain ⟨n, hn⟩ : ∃ n, n = zs.length := ⟨_, rfl⟩
  obtain ⟨m, hm⟩ : ∃ m, m = ms.length := ⟨_, rfl⟩
  rw [← hn] at HS HC ⊢
  rw [← hm] at HS' HC ⊢
  clear hc hR hs hs' hn hm
  go_enter Try.func42, Try.ntmps42
  go_wp2_with fail
  refine (HC.out _ HS.out HS'.out).mono ?_
  intro e w2 h2
  obtain ⟨a2, c2, rfl, hb2, ht2⟩ := picked_of HR.out h2
  have HT := Lib.hid ht2
  clear h2 ht2
  go_wp2_with fail
  refine bodyPost_ret (v := .tuple #[.slice a2 r.length c2, .int .i64 er]) (by simp [results, Try.results42, go_sem]) rfl ⟨.slice a2 r.length c2, by rw [← HR.out], hb2, by rw [← HR.out]; exact HT.out⟩
set_option maxHeartbeats 1000000 in
theorem refBoth_any (zs ms : List (Int × Int)) (a a' : Option Addr) (cap cap' : Nat) (w : World) (hs : Sl w 2 16 a zs.length cap (zs.flatMap encCell)) (hs' : Sl w 2 16 a' ms.length cap' (ms.flatMap encCell)) :
    Calls Try.prog 44 #[.slice a zs.length cap, .slice a' ms.length cap'] w (Picked w keepAnd zs ms) := by
  have hc := fun W h1 h2 => merge_any 95 (fun a b => a && b) keepAnd (by intro a b h; cases a <;> cases b <;> simp_all [keepAnd]) keeper_ref_and (.inr (.inl rfl)) zs ms a a' cap cap' W h1 h2
  obtain ⟨⟨r, er⟩, hR⟩ : ∃ R, R = mergeF keepAnd zs ms := ⟨_, rfl⟩
  have HC := Lib.hid hc
  have HR := Lib.hid hR
  have HS := Lib.hid hs
  have HS' := Lib.hid hs'
  obtain ⟨n, hn⟩ : ∃ n, n = zs.length := ⟨_, rfl⟩
  obtain ⟨m, hm⟩ : ∃ m, m = ms.length := ⟨_, rfl⟩
  rw [← hn] at HS HC ⊢
  rw [← hm] at HS' HC ⊢
  clear hc hR hs hs' hn hm
  go_enter Try.func44, Try.ntmps44
  go_wp2_with fail
  refine (HC.out _ HS.out HS'.out).mono ?_
  intro e w2 h2
  obtain ⟨a2, c2, rfl, hb2, ht2⟩ := picked_of HR.out h2
  have HT := Lib.hid ht2
  clear h2 ht2
  go_wp2_with fail
  refine bodyPost_ret (v := .tuple #[.slice a2 r.length c2, .int .i64 er]) (by simp [results, Try.results44, go_sem]) rfl ⟨.slice a2 r.length c2, by rw [← HR.out], hb2, by rw [← HR.out]; exact HT.out⟩
set_option maxHeartbeats 1000000 in
theorem refMinus_any (zs ms : List (Int × Int)) (a a' : Option Addr) (cap cap' : Nat) (w : World) (hs : Sl w 2 16 a zs.length cap (zs.flatMap encCell)) (hs' : Sl w 2 16 a' ms.length cap' (ms.flatMap encCell)) :
    Calls Try.prog 46 #[.slice a zs.length cap, .slice a' ms.length cap'] w (Picked w keepMinus zs ms) := by
  have hc := fun W h1 h2 => merge_any 97 (fun _ b => !b) keepMinus (by intro a b h; cases a <;> cases b <;> simp_all [keepMinus]) keeper_ref_minus (.inr (.inr rfl)) zs ms a a' cap cap' W h1 h2
  obtain ⟨⟨r, er⟩, hR⟩ : ∃ R, R = mergeF keepMinus zs ms := ⟨_, rfl⟩
  have HC := Lib.hid hc
  have HR := Lib.hid hR
  have HS := Lib.hid hs
  have HS' := Lib.hid hs'
  obtain ⟨n, hn⟩ : ∃ n, n = zs.length := ⟨_, rfl⟩
  obtain ⟨m, hm⟩ : ∃ m, m = ms.length := ⟨_, rfl⟩
  rw [← hn] at HS HC ⊢
  rw [← hm] at HS' HC ⊢
  clear hc hR hs hs' hn hm
  go_enter Try.func46, Try.ntmps46
  go_wp2_with fail
  refine (HC.out _ HS.out HS'.out).mono ?_
  intro e w2 h2
  obtain ⟨a2, c2, rfl, hb2, ht2⟩ := picked_of HR.out h2
  have HT := Lib.hid ht2
  clear h2 ht2
  go_wp2_with fail
  refine bodyPost_ret (v := .tuple #[.slice a2 r.length c2, .int .i64 er]) (by simp [results, Try.results46, go_sem]) rfl ⟨.slice a2 r.length c2, by rw [← HR.out], hb2, by rw [← HR.out]; exact HT.out⟩
theorem sl_one {w : World} {b : Nat} {x y : Int} (hb : w.heap[b]? = some (.cells #[.int .i64 x, .int .i64 y] 72 (0, 0))) : Sl w 2 16 (some ⟨b, 0, none⟩) [(x, y)].length 1 ([(x, y)].flatMap encCell) :=
  ⟨rfl, Nat.le_refl _, by simp [maxLen], (fun h => by cases h), by simp, fun _ => ⟨b, 0, rfl, fun j u hu => by rw [Nat.zero_add, Joins.cell_of_block hb]; simpa [encCell] using hu⟩⟩
theorem sl_nil (w : World) : Sl w 2 16 none ([] : List (Int × Int)).length 0 (([] : List (Int × Int)).flatMap encCell) :=
  ⟨rfl, Nat.le_refl _, by simp [maxLen], fun _ => rfl, by simp, fun h => by simp at h⟩
theorem one_union : mergeF keepOr [] [(1, 0)] = ([(1, 0)], 0) := by
  have t1 : tidyF [] = ([], 0) := by decide
  have t2 : tidyF [(1, 0)] = ([(1, 0)], 0) := by decide
  rw [mergeF, t1, t2]
  simp [pickF, keepOr]
set_option maxHeartbeats 4000000 in
theorem law_merges (zs ms : List (Int × Int)) (a a' : Option Addr) (cap cap' : Nat) (w : World) (hs : Sl w 2 16 a zs.length cap (zs.flatMap encCell)) (hs' : Sl w 2 16 a' ms.length cap' (ms.flatMap encCell)) :
    Calls Try.prog 9 #[.slice a zs.length cap, .slice a' ms.length cap'] w fun e w' => e = .returned (.bool true) ∧ Below w.heap.size w w' := by
  have hwide := hs.wide
  have hwide' := hs'.wide
  obtain ⟨⟨r1, e1⟩, hR1⟩ : ∃ R, R = mergeF keepOr zs ms := ⟨_, rfl⟩
  obtain ⟨⟨r2, e2⟩, hR2⟩ : ∃ R, R = mergeF keepAnd zs ms := ⟨_, rfl⟩
  obtain ⟨⟨r3, e3⟩, hR3⟩ : ∃ R, R = mergeF keepMinus zs ms := ⟨_, rfl⟩
  have l1 : r1.length ≤ 4096 := by have := mergeF_length keepOr zs ms; rw [← hR1] at this; exact this
  have l2 : r2.length ≤ 4096 := by have := mergeF_length keepAnd zs ms; rw [← hR2] at this; exact this
  have l3 : r3.length ≤ 4096 := by have := mergeF_length keepMinus zs ms; rw [← hR3] at this; exact this
  have HR1 := Lib.hid hR1
  have HR2 := Lib.hid hR2
  have HR3 := Lib.hid hR3
  have HS := Lib.hid hs
  have HS' := Lib.hid hs'
  have hB0 := Below.refl w.heap.size w
  clear hR1 hR2 hR3 hs hs'
  go_enter Try.func9, Try.ntmps9
  go_wp2_with fail
  have hX := Below.refl w.heap.size w
  refine (cells_any zs a cap _ (HS.out.below (by omega) hB0)).mono ?_
  rintro e wa1 ⟨v, rfl, hb, ho⟩
  have hX := hX.trans (hb.mono hX.size)
  have hBa1 := hB0.trans (hb.mono hB0.size)
  obtain ⟨xa1, ca1, rfl⟩ := own_form ho
  have sa1 := Lib.hid (sl_own_up (bytes := 16) ho (by omega) hwide (Below.refl _ _))
  clear hb ho
  go_wp2_with fail
  refine (cells_any ms a' cap' _ (HS'.out.below (by omega) hBa1)).mono ?_
  rintro e wb1 ⟨v, rfl, hb, ho⟩
  have hX := hX.trans (hb.mono hX.size)
  have hBb1 := hBa1.trans (hb.mono hBa1.size)
  obtain ⟨xb1, cb1, rfl⟩ := own_form ho
  have sa1' := Lib.hid (sa1.out.below (by omega) hb)
  have sb1 := Lib.hid (sl_own_up (bytes := 16) ho (by omega) hwide' (Below.refl _ _))
  clear hb ho
  go_wp2_with fail
  refine (goUnion_any zs ms xa1 xb1 ca1 cb1 _ sa1'.out sb1.out).mono ?_
  intro e wc1 h2
  obtain ⟨ac1, cc1, rfl, hb, ht⟩ := picked_of HR1.out h2
  have hX := hX.trans (hb.mono hX.size)
  have hBc1 := hBb1.trans (hb.mono hBb1.size)
  have Tp1 := Lib.hid ht
  clear h2 hb ht sa1 sa1' sb1
  go_wp2_with fail
  refine (refUnion_any zs ms a a' cap cap' _ (HS.out.below (by omega) hBc1) (HS'.out.below (by omega) hBc1)).mono ?_
  intro e wd1 h2
  obtain ⟨ad1, cd1, rfl, hb, ht⟩ := picked_of HR1.out h2
  have hX := hX.trans (hb.mono hX.size)
  have hBd1 := hBc1.trans (hb.mono hBc1.size)
  have Tq1 := Lib.hid ht
  have Tp1 := Lib.hid (Tp1.out.below hb)
  clear h2 hb ht hX hBa1 hBb1 hBc1
  go_wp2_with fail
  have hX := Below.refl wd1.heap.size wd1
  refine (cells_any zs a cap _ (HS.out.below (by omega) hBd1)).mono ?_
  rintro e wa2 ⟨v, rfl, hb, ho⟩
  have hX := hX.trans (hb.mono hX.size)
  have hBa2 := hBd1.trans (hb.mono hBd1.size)
  obtain ⟨xa2, ca2, rfl⟩ := own_form ho
  have sa2 := Lib.hid (sl_own_up (bytes := 16) ho (by omega) hwide (Below.refl _ _))
  clear hb ho
  go_wp2_with fail
  refine (cells_any ms a' cap' _ (HS'.out.below (by omega) hBa2)).mono ?_
  rintro e wb2 ⟨v, rfl, hb, ho⟩
  have hX := hX.trans (hb.mono hX.size)
  have hBb2 := hBa2.trans (hb.mono hBa2.size)
  obtain ⟨xb2, cb2, rfl⟩ := own_form ho
  have sa2' := Lib.hid (sa2.out.below (by omega) hb)
  have sb2 := Lib.hid (sl_own_up (bytes := 16) ho (by omega) hwide' (Below.refl _ _))
  clear hb ho
  go_wp2_with fail
  refine (goBoth_any zs ms xa2 xb2 ca2 cb2 _ sa2'.out sb2.out).mono ?_
  intro e wc2 h2
  obtain ⟨ac2, cc2, rfl, hb, ht⟩ := picked_of HR2.out h2
  have hX := hX.trans (hb.mono hX.size)
  have hBc2 := hBb2.trans (hb.mono hBb2.size)
  have Tp2 := Lib.hid ht
  clear h2 hb ht sa2 sa2' sb2
  go_wp2_with fail
  refine (refBoth_any zs ms a a' cap cap' _ (HS.out.below (by omega) hBc2) (HS'.out.below (by omega) hBc2)).mono ?_
  intro e wd2 h2
  obtain ⟨ad2, cd2, rfl, hb, ht⟩ := picked_of HR2.out h2
  have hX := hX.trans (hb.mono hX.size)
  have hBd2 := hBc2.trans (hb.mono hBc2.size)
  have Tq2 := Lib.hid ht
  have Tp2 := Lib.hid (Tp2.out.below hb)
  have Tp1 := Lib.hid (Tp1.out.below hX)
  have Tq1 := Lib.hid (Tq1.out.below hX)
  clear h2 hb ht hX hBa2 hBb2 hBc2
  go_wp2_with fail
  have hX := Below.refl wd2.heap.size wd2
  refine (cells_any zs a cap _ (HS.out.below (by omega) hBd2)).mono ?_
  rintro e wa3 ⟨v, rfl, hb, ho⟩
  have hX := hX.trans (hb.mono hX.size)
  have hBa3 := hBd2.trans (hb.mono hBd2.size)
  obtain ⟨xa3, ca3, rfl⟩ := own_form ho
  have sa3 := Lib.hid (sl_own_up (bytes := 16) ho (by omega) hwide (Below.refl _ _))
  clear hb ho
  go_wp2_with fail
  refine (cells_any ms a' cap' _ (HS'.out.below (by omega) hBa3)).mono ?_
  rintro e wb3 ⟨v, rfl, hb, ho⟩
  have hX := hX.trans (hb.mono hX.size)
  have hBb3 := hBa3.trans (hb.mono hBa3.size)
  obtain ⟨xb3, cb3, rfl⟩ := own_form ho
  have sa3' := Lib.hid (sa3.out.below (by omega) hb)
  have sb3 := Lib.hid (sl_own_up (bytes := 16) ho (by omega) hwide' (Below.refl _ _))
  clear hb ho
  go_wp2_with fail
  refine (goMinus_any zs ms xa3 xb3 ca3 cb3 _ sa3'.out sb3.out).mono ?_
  intro e wc3 h2
  obtain ⟨ac3, cc3, rfl, hb, ht⟩ := picked_of HR3.out h2
  have hX := hX.trans (hb.mono hX.size)
  have hBc3 := hBb3.trans (hb.mono hBb3.size)
  have Tp3 := Lib.hid ht
  clear h2 hb ht sa3 sa3' sb3
  go_wp2_with fail
  refine (refMinus_any zs ms a a' cap cap' _ (HS.out.below (by omega) hBc3) (HS'.out.below (by omega) hBc3)).mono ?_
  intro e wd3 h2
  obtain ⟨ad3, cd3, rfl, hb, ht⟩ := picked_of HR3.out h2
  have hX := hX.trans (hb.mono hX.size)
  have hBd3 := hBc3.trans (hb.mono hBc3.size)
  have Tq3 := Lib.hid ht
  have Tp3 := Lib.hid (Tp3.out.below hb)
  have Tp1 := Lib.hid (Tp1.out.below hX)
  have Tq1 := Lib.hid (Tq1.out.below hX)
  have Tp2 := Lib.hid (Tp2.out.below hX)
  have Tq2 := Lib.hid (Tq2.out.below hX)
  clear h2 hb ht hX hBa3 hBb3 hBc3
  go_wp2_with fail
  refine (goUnion_any [] [(1, 0)] _ _ _ _ _ (sl_nil _) (sl_one (blk_last wd3 _ rfl))).mono ?_
  intro e we h2
  obtain ⟨ae, ce, rfl, hb, ht⟩ := picked_of one_union.symm h2
  have hX := ((Below.refl wd3.heap.size wd3).alloc (Nat.le_refl _) (.cells #[.int .i64 1, .int .i64 0] 72)).trans (hb.mono (by simp))
  have hBe := hBd3.trans (hX.mono hBd3.size)
  have S1 := Lib.hid ((Tp1.out.below hX).sl (by omega))
  have S1' := Lib.hid ((Tq1.out.below hX).sl (by omega))
  have S2 := Lib.hid ((Tp2.out.below hX).sl (by omega))
  have S2' := Lib.hid ((Tq2.out.below hX).sl (by omega))
  have S3 := Lib.hid ((Tp3.out.below hX).sl (by omega))
  have S3' := Lib.hid ((Tq3.out.below hX).sl (by omega))
  clear h2 hb ht hX hBd1 hBd2 hBd3 Tp1 Tq1 Tp2 Tq2 Tp3 Tq3
  go_wp2_with fail
  refine (same_any r1 _ _ _ _ _ S1.out S1'.out).mono ?_
  rintro e wf ⟨rfl, hb5⟩
  have hBf := hBe.trans (hb5.mono hBe.size)
  have S2 := Lib.hid (S2.out.below (by omega) hb5)
  have S2' := Lib.hid (S2'.out.below (by omega) hb5)
  have S3 := Lib.hid (S3.out.below (by omega) hb5)
  have S3' := Lib.hid (S3'.out.below (by omega) hb5)
  clear hb5 hBe
  go_wp2_with fail
  refine (same_any r2 _ _ _ _ _ S2.out S2'.out).mono ?_
  rintro e wg ⟨rfl, hb5⟩
  have hBg := hBf.trans (hb5.mono hBf.size)
  have S3 := Lib.hid (S3.out.below (by omega) hb5)
  have S3' := Lib.hid (S3'.out.below (by omega) hb5)
  clear hb5 hBf
  go_wp2_with fail
  refine (same_any r3 _ _ _ _ _ S3.out S3'.out).mono ?_
  rintro e wh ⟨rfl, hb5⟩
  have hBh := hBg.trans (hb5.mono hBg.size)
  clear hb5 hBg
  go_wp2_with fail
  go_ret
  exact ⟨by simp, hBh⟩
section
open Go.ChangeShapes Go.WideShapes Go.ChangeAt
set_option maxRecDepth 100000 in
theorem lifted_planeMerges (os : Os) (started : os.Started) (H : Type) (enc : TypeId × Value → H)
    (walk : ∀ (W : World) (v0 : Value) (v1 : Value), Is_cells W v0 → Is_cells W v1 → Calls Try.prog 9 #[v0, v1] W fun e w' => e = .returned (.bool true) ∧ Below W.heap.size W w') :
    ReturnsInHanded {} Try.checked os 9 .any (Rows.planeMergesSpec.pre6 enc Try.prog Try.f9 Rows.planeMergesRow.domain false) (Rows.planeMergesSpec.post enc Try.prog Try.f9 false true false false) := by
  refine returnsInHanded_of_change_sized (C := Try.checked) own started (by kernel_rfl) Try.func9
    (ChangeSpec.witness6 (enc := enc) (C := Try.checked) false ⟨#[], #[.slice none 0 0, .slice none 0 0], []⟩ 8 (by kernel_rfl) (by kernel_rfl) (by kernel_rfl) (by kernel_rfl)) ?_
  intro W base args ds gs before hval0 hW hcnd hsz0 _
  have hval : ∀ (j : Nat) t v, Try.f9.params[j]? = some t → args[j]? = some v → Value.okWide Try.prog W .any base t v := hval0
  have hW' := hW
  obtain ⟨p, q, hA0, hV, rfl, hfz, hnd⟩ := hW
  have hA : DataW.TrodAll enc Try.prog W 0 (fun _ => true) true Try.f9.params.toList args.toList ds p := hA0
  rw [Try.params9] at hA hval
  obtain ⟨rfl, rfl⟩ := trodVars_none hV
  have hB := hA
  obtain ⟨v0, vs0, d0, ds0, p0, q0, hargs, rfl, rfl, h0, r0⟩ := trodAll_cons hA
  obtain ⟨v1, vs1, d1, ds1, p1, q1, rfl, rfl, rfl, h1, r1⟩ := trodAll_cons r0
  obtain ⟨rfl, rfl, rfl⟩ := trodAll_nil r1
  obtain rfl : args = #[v0, v1] := by cases args; simp_all
  have hsz : (DataW.weightsEach Try.prog [22, 22] [d0, d1]).all (· ≤ reachBytes) = true := hsz0
  have i0 := open_cells (hval 0 22 v0 rfl rfl) h0 (weights_le hsz 0 rfl rfl)
  have i1 := open_cells (hval 1 22 v1 rfl rfl) h1 (weights_le hsz 1 rfl rfl)
  refine (walk W v0 v1 i0 i1).mono fun e W' ⟨he, bel⟩ => ?_
  subst he
  exact ⟨_, rfl, _, _, _, [], _, [], hW', trodAll_mk1 (shut_bool Try.underlying4 _), trodAll_below laidOut (by kernel_rfl) hB bel, rfl, bel.frame _, fun h => by cases h⟩

theorem over_planeMerges (walk : ∀ (W : World) (v0 : Value) (v1 : Value), Is_cells W v0 → Is_cells W v1 → Calls Try.prog 9 #[v0, v1] W fun e w' => e = .returned (.bool true) ∧ Below W.heap.size W w') :
    Rows.planeMergesRow.holds Try.pinned (OpenSpec.ofChange Rows.planeMergesSpec) :=
  OpenClaim.holds_of_wide 9 Try.f9 rfl rfl rfl rfl rfl rfl rfl ⟨rfl, rfl, rfl, rfl, rfl⟩ rfl rfl rfl rfl rfl (by kernel_rfl) Try.func9 (by kernel_rfl)
    (of_decide_eq_true (by kernel_rfl)) (by unfold Func.isWrapper; first | (rw [if_pos (by decide +kernel)]; kernel_rfl) | (rw [if_neg (by decide +kernel)]; exact ⟨rfl, rfl⟩))
    (fun os started H enc _ => lifted_planeMerges os started H enc walk)
end
theorem planeMerges_proved : Rows.PlaneMergesSaid := over_planeMerges fun W _ _ ⟨zs, ⟨a, cap, e1, hs⟩, _⟩ ⟨ms, ⟨a', cap', e2, hs'⟩, _⟩ => by
  subst e1
  subst e2
  exact law_merges zs ms a a' cap cap' W hs hs'
end Go.Proofs.Ytffgpjkkgndkiaa
