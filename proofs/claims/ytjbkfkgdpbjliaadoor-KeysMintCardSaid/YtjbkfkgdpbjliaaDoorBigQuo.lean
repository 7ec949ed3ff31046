/-
  Whole numbers: QuoRem, DivMod and Mod by 2^64 of a number of either sign.
-/
import Derived.Test.YtjbkfkgdpbjliaaDoorBigSubs
import Derived.Test.YtjbkfkgdpbjliaaDoorDiv
import Derived.Test.YtjbkfkgdpbjliaaDoorBigOps2
namespace Go.Proofs.YtjbkfkgdpbjliaaDoor
set_option maxRecDepth 100000
open Go.RowKit

theorem BigI.keep {w w' : World} {q : Nat} {i : Int} {p : Nat} (h : BigI w q i) (hp : BigBlk w p) (hne : q ≠ p) (hk : Keeps (fun i => i = p) w w') : BigI w' q i := by
  by_cases hi : i < 0
  · obtain ⟨v, hb, ha⟩ := h.neg hi
    rw [BigI, if_pos hi]
    exact ⟨v, (hk.block _ (lt_of_block hb) hne).trans hb, ha.keep hp hk⟩
  · have h2 := h.pos (by omega)
    rw [BigI, if_neg hi]
    exact h2.keep hp hne hk
theorem BigI.below {w w' : World} {q : Nat} {i : Int} (h : BigI w q i) (hb : Below w.heap.size w w') : BigI w' q i := by
  by_cases hi : i < 0
  · have h2 := h.neg hi
    rw [BigI, if_pos hi]
    exact h2.below hb
  · have h2 := h.pos (by omega)
    rw [BigI, if_neg hi]
    exact h2.below hb
theorem BigI.blk {w : World} {q : Nat} {i : Int} (h : BigI w q i) : BigBlk w q := by
  by_cases hi : i < 0
  · obtain ⟨v, hb, a, c, rfl, -⟩ := h.neg hi
    exact ⟨_, _, _, _, hb⟩
  · exact (h.pos (by omega)).blk
theorem sgn_natAbs (s : Bool) (n : Nat) : (sgn s n).natAbs = n := by cases s <;> simp [sgn]
/-- What QuoRem by 2^64 leaves: the rest with the sign of the number. -/
theorem sgn_rest {s : Bool} {x : Int} (h : sgn s x.natAbs = x) : sgn s (x.natAbs % 18446744073709551616) = x.tmod 18446744073709551616 := by
  cases s with
  | false =>
    have h2 : 0 ≤ x := by simp [sgn] at h; omega
    rw [Int.tmod_eq_emod_of_nonneg h2]
    simp [sgn]; omega
  | true =>
    have h2 : x ≤ 0 := by simp [sgn] at h; omega
    obtain ⟨y, rfl⟩ : ∃ y : Nat, x = -(y : Int) := ⟨x.natAbs, by omega⟩
    rw [Int.neg_tmod, Int.tmod_eq_emod_of_nonneg (by omega)]
    simp [sgn]
def QrS (p m : Nat) (x : Int) (w : World) (e : Ending) (w' : World) : Prop := e = .returned (.tuple #[.pointer (some ⟨p, 0, none⟩), .pointer (some ⟨m, 0, none⟩)]) ∧ (∃ k, BigI w' p k ∧ (x.natAbs < 18446744073709551616 → k = 0)) ∧ BigI w' m (x.tmod 18446744073709551616) ∧ Keeps (fun i => i = p ∨ i = m) w w'
theorem BigBlk.keep {w w' : World} {p q : Nat} (h : BigBlk w q) (hk : Keeps (fun i => i = p) w w') (hne : q ≠ p) : BigBlk w' q := by
  obtain ⟨f, a, n, c, hb⟩ := h
  exact ⟨f, a, n, c, (hk.block _ (lt_of_block hb) hne).trans hb⟩
set_option maxHeartbeats 4000000 in
theorem quoRem_any (p q r m : Nat) (x : Int) (w : World) (hp : BigBlk w p) (hq : BigI w q x) (hr : BigAt w r 18446744073709551616) (hm : BigBlk w m) (hpm : p ≠ m) (hx : x.natAbs < 340282366920938463463374607431768211456) :
    Calls Tryd.prog 55 #[.pointer (some ⟨p, 0, none⟩), .pointer (some ⟨q, 0, none⟩), .pointer (some ⟨r, 0, none⟩), .pointer (some ⟨m, 0, none⟩)] w (QrS p m x w) := by
  obtain ⟨s, v1, q0, q1, hA1, hs, hs0⟩ := hq.cells
  obtain ⟨a2, c2, r0, r1, hA2⟩ := bigAt_cells hr
  obtain ⟨v2, hv2⟩ : ∃ v2, v2 = Value.slice a2 (wordsN 18446744073709551616).length c2 := ⟨_, rfl⟩
  rw [← hv2] at r1 hA2
  have hrest := sgn_rest hs
  have hB1 : Below w.heap.size w w.drew.drew := ((Below.refl _ w).drew).drew
  have hS : Calls Tryd.prog 59 #[v1, v2] w.drew.drew fun e w' => (∃ q r k, e = .returned (.tuple #[q, r]) ∧ AbsOf w' q k ∧ (x.natAbs < 18446744073709551616 → k = 0) ∧ AbsOf w' r (x.natAbs % 18446744073709551616)) ∧ Below w.heap.size w w' :=
    (div64_any x.natAbs v1 v2 w.drew.drew hx (hA1.below hB1) (hA2.below hB1)).mono fun e w1 h => ⟨h.1, hB1.trans h.2⟩
  have HS := Lib.hid hS
  have hql := hq.blk.lt
  have hrl := hr.lt
  have hcell : ∀ W, Below w.heap.size w W → W.cell? ⟨q, 1, none⟩ = some v1 ∧ W.cell? ⟨r, 1, none⟩ = some v2 := fun W h =>
    ⟨(h.cell (p := ⟨q, 1, none⟩) hql).trans q1, (h.cell (p := ⟨r, 1, none⟩) hrl).trans r1⟩
  have HCE := Lib.hid hcell
  have HB1 := Lib.hid hB1
  have HP := Lib.hid hp
  have HM := Lib.hid hm
  have HREST := Lib.hid hrest
  clear hv2 hA1 hA2 hp hq hr hm hs hs0 hx hrest hcell hS
  cases s
  all_goals
    go_enter Tryd.func55, Tryd.ntmps55
    go_wp2_with fail
    go_region
    go_wp2_with fail
    go_region_held3 (fun w' => w'.cell? ⟨q, 1, none⟩ = some v1 ∧ w'.cell? ⟨r, 1, none⟩ = some v2) (first | exact HCE.out _ HB1.out | exact HCE.out _ hb1) ((go_at_call 59; with_reducible refine HS.out.mono ?_; rintro e w1 ⟨⟨q', r', k, rfl, hr1, hk1, hr2⟩, hb1⟩))
    have HG := Lib.hid (fun s => giveI_any p k s q' w1 (HP.out.below hb1) hr1)
    have HK1 := Lib.hid hk1
    have HR2 := Lib.hid hr2
    have HBW := Lib.hid hb1
    clear hr1 hk1 hr2 hb1
    go_wp2_with fail
    refine (HG.out _).mono ?_
    rintro e w2 ⟨rfl, h1, h2⟩
    have HG2 := Lib.hid (fun s => giveI_any m _ s r' w2 ((HM.out.below HBW.out).keep h2 (Ne.symm hpm)) (HR2.out.keep (HP.out.below HBW.out) h2))
    have H1 := Lib.hid h1
    have H2 := Lib.hid h2
    clear h1 h2
    go_wp2_with fail
    refine (HG2.out _).mono ?_
    rintro e w3 ⟨rfl, h1, h2⟩
    have H3 := Lib.hid h1
    have H4 := Lib.hid h2
    clear h1 h2
    go_wp2_with fail
    go_ret2
    refine ⟨rfl, ⟨_, H1.out.keep ((HM.out.below HBW.out).keep H2.out (Ne.symm hpm)) hpm H4.out, fun h => by rw [HK1.out h]; rfl⟩, by rw [← HREST.out]; exact H3.out, ?_⟩
    exact ((Keeps.of_below (F := fun i => i = p ∨ i = m) HBW.out).trans H2.out (fun _ _ h => .inl h)).trans H4.out (fun _ _ h => .inr h)
end Go.Proofs.YtjbkfkgdpbjliaaDoor
