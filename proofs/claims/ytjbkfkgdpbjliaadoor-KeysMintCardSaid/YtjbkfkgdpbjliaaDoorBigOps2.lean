/-
  Whole numbers that are not below 0: Mul, Rsh, Lsh of 1, Set.
-/
import Derived.Test.YtjbkfkgdpbjliaaDoorXorOps
import Derived.Test.YtjbkfkgdpbjliaaDoorBigOps
namespace Go.Proofs.YtjbkfkgdpbjliaaDoor
set_option maxRecDepth 100000
open Go.RowKit

set_option maxHeartbeats 4000000 in
theorem mulZ_any (n m : Nat) (u v : Value) (w : World) (hn : n < bigTop) (hm : m < bigTop) (hu : AbsOf w u n) (hv : AbsOf w v m) :
    Calls Tryd.prog 35 #[u, v] w fun e w' => (∃ r, e = .returned r ∧ AbsOf w' r (n * m)) ∧ Below w.heap.size w w' := by
  by_cases h0 : 0 < n ∧ 0 < m
  · exact mulG_any n m u v w h0.1 h0.2 hn hm hu hv
  · have hz : n * m = 0 := by
      rcases Nat.eq_zero_or_pos n with h | h
      · rw [h, Nat.zero_mul]
      · rcases Nat.eq_zero_or_pos m with h2 | h2
        · rw [h2, Nat.mul_zero]
        · exact absurd ⟨h, h2⟩ h0
    rw [hz]
    obtain ⟨a, ca, rfl, -, -⟩ := hu
    obtain ⟨b, cb, rfl, -, -⟩ := hv
    obtain ⟨la, hLA⟩ : ∃ la, la = (wordsN n).length := ⟨_, rfl⟩
    obtain ⟨lb, hLB⟩ : ∃ lb, lb = (wordsN m).length := ⟨_, rfl⟩
    have hc : la = 0 ∨ (¬ la = 0 ∧ lb = 0) := by
      by_cases hn0 : n = 0
      · exact .inl (by rw [hLA, hn0]; rfl)
      · exact .inr ⟨fun e => hn0 (wordsN_nil.1 (by rw [← hLA]; exact e)), by rw [hLB, show m = 0 by omega]; rfl⟩
    rw [← hLA, ← hLB]
    clear hLA hLB hz h0 hn hm
    rcases hc with rfl | ⟨h1, rfl⟩
    · go_enter Tryd.func35, Tryd.ntmps35
      go_wp2_with fail
      go_ret
      exact ⟨⟨.slice none 0 0, rfl, AbsOf.zero _⟩, Below.refl _ _⟩
    · have t1 : ((la : Int) == 0) = false := by rw [beq_eq_false_iff_ne]; omega
      go_enter Tryd.func35, Tryd.ntmps35
      go_wp2_with fail
      go_ret
      exact ⟨⟨.slice none 0 0, rfl, AbsOf.zero _⟩, Below.refl _ _⟩
theorem giveB {p n : Nat} {w w1 : World} {r : Value} (hp : BigBlk w p) (h1 : AbsOf w1 r n) (h2 : Below w.heap.size w w1) : Calls Tryd.prog 31 #[.pointer (some ⟨p, 0, none⟩), .bool false, r] w1 fun e w' => e = .returned (.pointer (some ⟨p, 0, none⟩)) ∧ BigAt w' p n ∧ Keeps (fun i => i = p) w w' := by
  refine (give_any p n r w1 (hp.below h2) h1).mono ?_
  rintro e w' ⟨h3, h4, h5⟩
  exact ⟨h3, h4, (Keeps.of_below (F := fun i => i = p) h2).trans h5 (fun _ _ h => h)⟩
set_option maxHeartbeats 4000000 in
theorem bigMul_any (p q r n m : Nat) (w : World) (hp : BigBlk w p) (hq : BigAt w q n) (hr : BigAt w r m) (hn : n < bigTop) (hm : m < bigTop) (hpq : p ≠ q) (hpr : p ≠ r) :
    Calls Tryd.prog 37 #[.pointer (some ⟨p, 0, none⟩), .pointer (some ⟨q, 0, none⟩), .pointer (some ⟨r, 0, none⟩)] w fun e w' => e = .returned (.pointer (some ⟨p, 0, none⟩)) ∧ BigAt w' p (n * m) ∧ Keeps (fun i => i = p) w w' := by
  obtain ⟨a1, c1, q0, q1, hA1⟩ := bigAt_cells hq
  obtain ⟨a2, c2, r0, r1, hA2⟩ := bigAt_cells hr
  obtain ⟨v1, hv1⟩ : ∃ v1, v1 = Value.slice a1 (wordsN n).length c1 := ⟨_, rfl⟩
  obtain ⟨v2, hv2⟩ : ∃ v2, v2 = Value.slice a2 (wordsN m).length c2 := ⟨_, rfl⟩
  rw [← hv1] at q1 hA1
  rw [← hv2] at r1 hA2
  have hD : Below w.heap.size w w.drew := (Below.refl _ _).drew
  have hS : Calls Tryd.prog 35 #[v1, v2] w.drew fun e w' => (∃ r, e = .returned r ∧ AbsOf w' r (n * m)) ∧ Below w.heap.size w w' := (mulZ_any n m v1 v2 w.drew hn hm (hA1.below hD) (hA2.below hD)).mono fun e w1 h => ⟨h.1, hD.trans h.2⟩
  have HS := Lib.hid hS
  have hql := hq.lt
  have hrl := hr.lt
  have hcell : ∀ W, Below w.heap.size w W → W.cell? ⟨q, 0, none⟩ = some (.bool false) ∧ W.cell? ⟨q, 1, none⟩ = some v1 ∧ W.cell? ⟨r, 0, none⟩ = some (.bool false) ∧ W.cell? ⟨r, 1, none⟩ = some v2 := fun W h =>
    ⟨(h.cell (p := ⟨q, 0, none⟩) hql).trans q0, (h.cell (p := ⟨q, 1, none⟩) hql).trans q1, (h.cell (p := ⟨r, 0, none⟩) hrl).trans r0, (h.cell (p := ⟨r, 1, none⟩) hrl).trans r1⟩
  have hcell2 : ∀ W, Keeps (fun i => i = p) w W → W.cell? ⟨q, 0, none⟩ = some (.bool false) ∧ W.cell? ⟨q, 1, none⟩ = some v1 ∧ W.cell? ⟨r, 0, none⟩ = some (.bool false) ∧ W.cell? ⟨r, 1, none⟩ = some v2 := fun W h =>
    ⟨(h.cell (p := ⟨q, 0, none⟩) hql (by show q ≠ p; omega)).trans q0, (h.cell (p := ⟨q, 1, none⟩) hql (by show q ≠ p; omega)).trans q1, (h.cell (p := ⟨r, 0, none⟩) hrl (by show r ≠ p; omega)).trans r0, (h.cell (p := ⟨r, 1, none⟩) hrl (by show r ≠ p; omega)).trans r1⟩
  have HCE := Lib.hid hcell
  have HCF := Lib.hid hcell2
  have HD := Lib.hid hD
  have HP := Lib.hid hp
  clear hv1 hv2 hA1 hA2 hp hq hr hD hcell hcell2 q0 q1 r0 r1 hn hm hS
  go_enter Tryd.func37, Tryd.ntmps37
  go_wp2_with fail
  go_region_held3 (fun w' => w'.cell? ⟨q, 0, none⟩ = some (.bool false) ∧ w'.cell? ⟨q, 1, none⟩ = some v1 ∧ w'.cell? ⟨r, 0, none⟩ = some (.bool false) ∧ w'.cell? ⟨r, 1, none⟩ = some v2) (first | exact HCE.out _ HD.out | exact HCE.out _ hb1 | exact HCF.out _ h2) ((first | (go_at_call 35; with_reducible refine HS.out.mono ?_; rintro e w1 ⟨⟨r', rfl, hr1⟩, hb1⟩) | (go_at_call 31; with_reducible refine (giveB HP.out hr1 hb1).mono ?_; rintro e w2 ⟨rfl, h1, h2⟩)))
  all_goals
    go_wp2_with fail
    go_ret
    exact ⟨rfl, h1, h2⟩
set_option maxHeartbeats 4000000 in
theorem bigRsh27_any (p q n : Nat) (w : World) (hp : BigBlk w p) (hq : BigAt w q n) (hn : n < bigTop) :
    Calls Tryd.prog 23 #[.pointer (some ⟨p, 0, none⟩), .pointer (some ⟨q, 0, none⟩), .int .u64 27] w fun e w' => e = .returned (.pointer (some ⟨p, 0, none⟩)) ∧ BigAt w' p (n / 134217728) ∧ Keeps (fun i => i = p) w w' := by
  obtain ⟨a1, c1, q0, q1, hA1⟩ := bigAt_cells hq
  obtain ⟨v1, hv1⟩ : ∃ v1, v1 = Value.slice a1 (wordsN n).length c1 := ⟨_, rfl⟩
  rw [← hv1] at q1 hA1
  have HS := Lib.hid (right27_any n v1 w hn hA1)
  have HP := Lib.hid hp
  clear hv1 hA1 hp hq
  go_enter Tryd.func23, Tryd.ntmps23
  go_wp2_with fail
  refine HS.out.mono ?_
  rintro e w1 ⟨⟨r', rfl, hr1⟩, hb1⟩
  have HG := Lib.hid (giveB HP.out hr1 hb1)
  clear hr1 hb1 q0 q1
  go_wp2_with fail
  refine HG.out.mono ?_
  rintro e w2 ⟨rfl, h1, h2⟩
  have H1 := Lib.hid h1
  have H2 := Lib.hid h2
  clear h1 h2
  go_wp2_with fail
  go_ret
  exact ⟨rfl, H1.out, H2.out⟩
set_option maxHeartbeats 4000000 in
theorem bigRsh30_any (p q n : Nat) (w : World) (hp : BigBlk w p) (hq : BigAt w q n) (hn : n < bigTop) :
    Calls Tryd.prog 23 #[.pointer (some ⟨p, 0, none⟩), .pointer (some ⟨q, 0, none⟩), .int .u64 30] w fun e w' => e = .returned (.pointer (some ⟨p, 0, none⟩)) ∧ BigAt w' p (n / 1073741824) ∧ Keeps (fun i => i = p) w w' := by
  obtain ⟨a1, c1, q0, q1, hA1⟩ := bigAt_cells hq
  obtain ⟨v1, hv1⟩ : ∃ v1, v1 = Value.slice a1 (wordsN n).length c1 := ⟨_, rfl⟩
  rw [← hv1] at q1 hA1
  have HS := Lib.hid (right30_any n v1 w hn hA1)
  have HP := Lib.hid hp
  clear hv1 hA1 hp hq
  go_enter Tryd.func23, Tryd.ntmps23
  go_wp2_with fail
  refine HS.out.mono ?_
  rintro e w1 ⟨⟨r', rfl, hr1⟩, hb1⟩
  have HG := Lib.hid (giveB HP.out hr1 hb1)
  clear hr1 hb1 q0 q1
  go_wp2_with fail
  refine HG.out.mono ?_
  rintro e w2 ⟨rfl, h1, h2⟩
  have H1 := Lib.hid h1
  have H2 := Lib.hid h2
  clear h1 h2
  go_wp2_with fail
  go_ret
  exact ⟨rfl, H1.out, H2.out⟩
set_option maxHeartbeats 4000000 in
theorem bigRsh31_any (p q n : Nat) (w : World) (hp : BigBlk w p) (hq : BigAt w q n) (hn : n < bigTop) :
    Calls Tryd.prog 23 #[.pointer (some ⟨p, 0, none⟩), .pointer (some ⟨q, 0, none⟩), .int .u64 31] w fun e w' => e = .returned (.pointer (some ⟨p, 0, none⟩)) ∧ BigAt w' p (n / 2147483648) ∧ Keeps (fun i => i = p) w w' := by
  obtain ⟨a1, c1, q0, q1, hA1⟩ := bigAt_cells hq
  obtain ⟨v1, hv1⟩ : ∃ v1, v1 = Value.slice a1 (wordsN n).length c1 := ⟨_, rfl⟩
  rw [← hv1] at q1 hA1
  have HS := Lib.hid (right31_any n v1 w hn hA1)
  have HP := Lib.hid hp
  clear hv1 hA1 hp hq
  go_enter Tryd.func23, Tryd.ntmps23
  go_wp2_with fail
  refine HS.out.mono ?_
  rintro e w1 ⟨⟨r', rfl, hr1⟩, hb1⟩
  have HG := Lib.hid (giveB HP.out hr1 hb1)
  clear hr1 hb1 q0 q1
  go_wp2_with fail
  refine HG.out.mono ?_
  rintro e w2 ⟨rfl, h1, h2⟩
  have H1 := Lib.hid h1
  have H2 := Lib.hid h2
  clear h1 h2
  go_wp2_with fail
  go_ret
  exact ⟨rfl, H1.out, H2.out⟩
set_option maxHeartbeats 4000000 in
theorem bigLsh64_one (p q : Nat) (w : World) (hp : BigBlk w p) (hq : BigAt w q 1) (hpq : p ≠ q) :
    Calls Tryd.prog 14 #[.pointer (some ⟨p, 0, none⟩), .pointer (some ⟨q, 0, none⟩), .int .u64 64] w fun e w' => e = .returned (.pointer (some ⟨p, 0, none⟩)) ∧ BigAt w' p (18446744073709551616) ∧ Keeps (fun i => i = p) w w' := by
  obtain ⟨a1, c1, q0, q1, hA1⟩ := bigAt_cells hq
  obtain ⟨v1, hv1⟩ : ∃ v1, v1 = Value.slice a1 (wordsN 1).length c1 := ⟨_, rfl⟩
  rw [← hv1] at q1 hA1
  have hD : Below w.heap.size w w.drew := (Below.refl _ _).drew
  have hS : Calls Tryd.prog 32 #[v1, .int .u64 64] w.drew fun e w' => (∃ r, e = .returned r ∧ AbsOf w' r (18446744073709551616)) ∧ Below w.heap.size w w' := (left64_one v1 w.drew (hA1.below hD)).mono fun e w1 h => ⟨h.1, hD.trans h.2⟩
  have HS := Lib.hid hS
  have hql := hq.lt
  have hcell : ∀ W, Below w.heap.size w W → W.cell? ⟨q, 0, none⟩ = some (.bool false) ∧ W.cell? ⟨q, 1, none⟩ = some v1 := fun W h =>
    ⟨(h.cell (p := ⟨q, 0, none⟩) hql).trans q0, (h.cell (p := ⟨q, 1, none⟩) hql).trans q1⟩
  have hcell2 : ∀ W, Keeps (fun i => i = p) w W → W.cell? ⟨q, 0, none⟩ = some (.bool false) ∧ W.cell? ⟨q, 1, none⟩ = some v1 := fun W h =>
    ⟨(h.cell (p := ⟨q, 0, none⟩) hql (by show q ≠ p; omega)).trans q0, (h.cell (p := ⟨q, 1, none⟩) hql (by show q ≠ p; omega)).trans q1⟩
  have HCE := Lib.hid hcell
  have HCF := Lib.hid hcell2
  have HD := Lib.hid hD
  have HP := Lib.hid hp
  clear hv1 hA1 hp hq hD hcell hcell2 q0 q1 hS
  go_enter Tryd.func14, Tryd.ntmps14
  go_wp2_with fail
  go_region_held3 (fun w' => w'.cell? ⟨q, 0, none⟩ = some (.bool false) ∧ w'.cell? ⟨q, 1, none⟩ = some v1) (first | exact HCE.out _ HD.out | exact HCE.out _ hb1 | exact HCF.out _ h2) ((first | (go_at_call 32; with_reducible refine HS.out.mono ?_; rintro e w1 ⟨⟨r', rfl, hr1⟩, hb1⟩) | (go_at_call 31; with_reducible refine (giveB HP.out hr1 hb1).mono ?_; rintro e w2 ⟨rfl, h1, h2⟩)))
  all_goals
    go_wp2_with fail
    go_ret
    exact ⟨rfl, h1, h2⟩
set_option maxHeartbeats 4000000 in
theorem bigSet_any (p q n : Nat) (w : World) (hp : BigBlk w p) (hq : BigAt w q n) (hn : n < bigTop) (hpq : p ≠ q) :
    Calls Tryd.prog 54 #[.pointer (some ⟨p, 0, none⟩), .pointer (some ⟨q, 0, none⟩)] w fun e w' => e = .returned (.pointer (some ⟨p, 0, none⟩)) ∧ BigAt w' p (n) ∧ Keeps (fun i => i = p) w w' := by
  obtain ⟨a1, c1, q0, q1, hA1⟩ := bigAt_cells hq
  obtain ⟨v1, hv1⟩ : ∃ v1, v1 = Value.slice a1 (wordsN n).length c1 := ⟨_, rfl⟩
  rw [← hv1] at q1 hA1
  have hD : Below w.heap.size w w.drew := (Below.refl _ _).drew
  have hS : Calls Tryd.prog 45 #[v1] w.drew fun e w' => (∃ r, e = .returned r ∧ AbsOf w' r (n)) ∧ Below w.heap.size w w' := (twin_any n v1 w.drew hn (hA1.below hD)).mono fun e w1 h => ⟨h.1, hD.trans h.2⟩
  have HS := Lib.hid hS
  have hql := hq.lt
  have hcell : ∀ W, Below w.heap.size w W → W.cell? ⟨q, 0, none⟩ = some (.bool false) ∧ W.cell? ⟨q, 1, none⟩ = some v1 := fun W h =>
    ⟨(h.cell (p := ⟨q, 0, none⟩) hql).trans q0, (h.cell (p := ⟨q, 1, none⟩) hql).trans q1⟩
  have hcell2 : ∀ W, Keeps (fun i => i = p) w W → W.cell? ⟨q, 0, none⟩ = some (.bool false) ∧ W.cell? ⟨q, 1, none⟩ = some v1 := fun W h =>
    ⟨(h.cell (p := ⟨q, 0, none⟩) hql (by show q ≠ p; omega)).trans q0, (h.cell (p := ⟨q, 1, none⟩) hql (by show q ≠ p; omega)).trans q1⟩
  have HCE := Lib.hid hcell
  have HCF := Lib.hid hcell2
  have HD := Lib.hid hD
  have HP := Lib.hid hp
  clear hv1 hA1 hp hq hD hcell hcell2 q0 q1 hS
  go_enter Tryd.func54, Tryd.ntmps54
  go_wp2_with fail
  go_region_held3 (fun w' => w'.cell? ⟨q, 0, none⟩ = some (.bool false) ∧ w'.cell? ⟨q, 1, none⟩ = some v1) (first | exact HCE.out _ HD.out | exact HCE.out _ hb1 | exact HCF.out _ h2) ((first | (go_at_call 45; with_reducible refine HS.out.mono ?_; rintro e w1 ⟨⟨r', rfl, hr1⟩, hb1⟩) | (go_at_call 31; with_reducible refine (giveB HP.out hr1 hb1).mono ?_; rintro e w2 ⟨rfl, h1, h2⟩)))
  all_goals
    go_wp2_with fail
    go_ret
    exact ⟨rfl, h1, h2⟩
end Go.Proofs.YtjbkfkgdpbjliaaDoor
