/-
  Whole numbers: sum, Add.
-/
import Derived.Test.YtjbkfkgdpbjliaaDoorBigAdd
import Derived.Deep.RegionWith
namespace Go.Proofs.YtjbkfkgdpbjliaaDoor
set_option maxRecDepth 100000
open Go.RowKit

set_option maxHeartbeats 1000000 in
theorem sum_any (n m : Nat) (u v : Value) (w : World) (hnm : n + m < 18446744073709551616) (hu : AbsOf w u n) (hv : AbsOf w v m) :
    Calls Tryd.prog 38 #[.bool false, u, .bool false, v] w fun e w' => ∃ r, e = .returned (.tuple #[.bool false, r]) ∧ AbsOf w' r (n + m) ∧ Below w.heap.size w w' := by
  have HA := Lib.hid (add_any n m u v w (Nat.lt_of_lt_of_le hnm bigTop_ge) hu hv)
  clear hu hv
  go_enter Tryd.func38, Tryd.ntmps38
  go_wp2_with fail
  refine HA.out.mono ?_
  rintro e w1 ⟨⟨r, rfl, hr⟩, hb⟩
  have HR := Lib.hid hr
  have HB := Lib.hid hb
  clear hr hb
  go_wp2_with fail
  refine bodyPost_ret (v := .tuple #[.bool false, r]) (by simp [results, Tryd.results38, go_sem]) rfl ⟨r, rfl, HR.out, HB.out⟩
theorem bigAt_cells {w : World} {p n : Nat} (h : BigAt w p n) : ∃ a c, w.cell? ⟨p, 0, none⟩ = some (.bool false) ∧ w.cell? ⟨p, 1, none⟩ = some (.slice a (wordsN n).length c) ∧ AbsOf w (.slice a (wordsN n).length c) n := by
  obtain ⟨v, hb, a, c, rfl, hs, ht⟩ := h
  exact ⟨a, c, Joins.cell_of_block hb 0, Joins.cell_of_block hb 1, a, c, rfl, hs, ht⟩
set_option maxHeartbeats 2000000 in
theorem bigAdd_any (p q r n m : Nat) (w : World) (hp : BigBlk w p) (hq : BigAt w q n) (hr : BigAt w r m) (hnm : n + m < 18446744073709551616) :
    Calls Tryd.prog 19 #[.pointer (some ⟨p, 0, none⟩), .pointer (some ⟨q, 0, none⟩), .pointer (some ⟨r, 0, none⟩)] w fun e w' => e = .returned (.pointer (some ⟨p, 0, none⟩)) ∧ BigAt w' p (n + m) ∧ Keeps (fun i => i = p) w w' := by
  obtain ⟨a1, c1, q0, q1, hA1⟩ := bigAt_cells hq
  obtain ⟨a2, c2, r0, r1, hA2⟩ := bigAt_cells hr
  obtain ⟨v1, hv1⟩ : ∃ v1, v1 = Value.slice a1 (wordsN n).length c1 := ⟨_, rfl⟩
  obtain ⟨v2, hv2⟩ : ∃ v2, v2 = Value.slice a2 (wordsN m).length c2 := ⟨_, rfl⟩
  rw [← hv1] at q1 hA1
  rw [← hv2] at r1 hA2
  have hD : Below w.heap.size w w.drew := (Below.refl _ _).drew
  have HS := Lib.hid (sum_any n m v1 v2 w.drew hnm (hA1.below hD) (hA2.below hD))
  have hG : ∀ r' w1, AbsOf w1 r' (n + m) → Below w.heap.size w w1 → Calls Tryd.prog 31 #[.pointer (some ⟨p, 0, none⟩), .bool false, r'] w1 fun e w' => e = .returned (.pointer (some ⟨p, 0, none⟩)) ∧ BigAt w' p (n + m) ∧ Keeps (fun i => i = p) w w' := fun r' w1 h1 h2 => by
    refine (give_any p (n + m) r' w1 (hp.below h2) h1).mono ?_
    rintro e w' ⟨h3, h4, h5⟩
    exact ⟨h3, h4, (Keeps.of_below (F := fun i => i = p) h2).trans h5 (fun _ _ h => h)⟩
  have HG := Lib.hid hG
  have HD := Lib.hid hD
  have HP := Lib.hid hp
  clear hv1 hv2 hA1 hA2 hp hq hr hG hD
  go_enter Tryd.func19, Tryd.ntmps19
  go_wp2_with fail
  go_region_with (first | (go_at_call 38; refine HS.out.mono ?_; rintro e w1 ⟨r', rfl, hr1, hb1⟩) | (go_at_call 31; refine (HG.out _ _ hr1 (HD.out.trans hb1)).mono ?_; rintro e w2 ⟨rfl, h1, h2⟩))
  all_goals
    go_wp2_with fail
    go_ret
    exact ⟨rfl, h1, h2⟩
end Go.Proofs.YtjbkfkgdpbjliaaDoor
