/-
  Whole numbers: DivMod and Mod by 2^64 of a number of either sign; the document's product of 64 bits.
-/
import Derived.Test.YtjbkfkgdpbjliaaDoorBigQuo
namespace Go.Proofs.YtjbkfkgdpbjliaaDoor
set_option maxRecDepth 100000
open Go.RowKit

theorem BigI.sign {w : World} {p : Nat} {i : Int} (h : BigI w p i) : w.cell? ⟨p, 0, none⟩ = some (.bool (decide (i < 0))) := by
  by_cases hi : i < 0
  · obtain ⟨v, hb, ha⟩ := h.neg hi
    rw [decide_eq_true hi]
    exact Joins.cell_of_block hb 0
  · obtain ⟨v, hb, ha⟩ := h.pos (by omega)
    rw [decide_eq_false hi]
    exact Joins.cell_of_block hb 0
theorem BigAt.zero {w : World} {p : Nat} (h : w.heap[p]? = some (.cells #[.bool false, .slice none 0 0] 42 (0, 0))) : BigAt w p 0 := ⟨_, h, AbsOf.zero w⟩
theorem Keeps.more {F : Nat → Prop} {w w1 w2 : World} (h : Keeps F w w1) (g : Keeps (fun i => i = w.heap.size) w1 w2) : Keeps F w w2 := h.trans g (fun i hi e => by omega)
theorem BigI.blk_of {w : World} {p : Nat} {i : Int} (h : BigI w p i) {o : Obj} : BigI (w.alloc o) p i := h.below ((Below.refl _ w).alloc (Nat.le_refl _) o)
theorem top_two : 340282366920938463463374607431768211456 < bigTop := Nat.lt_of_lt_of_le (show 340282366920938463463374607431768211456 < 4294967296 ^ 5 by decide) (bigTop_pow (k := 5) (by omega))
theorem AbsOf.keep2 {w w' : World} {v : Value} {n p m : Nat} (h : AbsOf w v n) (hp : BigBlk w p) (hm : BigBlk w m) (hk : Keeps (fun i => i = p ∨ i = m) w w') : AbsOf w' v n :=
  h.keepT fun b arr fr hb => hk.block b (lt_of_block hb) fun e => by
    rcases e with e | e
    · subst e
      obtain ⟨_, _, _, _, h2⟩ := hp
      rw [hb] at h2
      simp at h2
    · subst e
      obtain ⟨_, _, _, _, h2⟩ := hm
      rw [hb] at h2
      simp at h2
theorem BigAt.keep2 {w w' : World} {q n p m : Nat} (h : BigAt w q n) (hp : BigBlk w p) (hm : BigBlk w m) (h1 : q ≠ p) (h2 : q ≠ m) (hk : Keeps (fun i => i = p ∨ i = m) w w') : BigAt w' q n := by
  obtain ⟨v, hb, ha⟩ := h
  exact ⟨v, (hk.block q (lt_of_block hb) (fun e => by rcases e with e | e <;> contradiction)).trans hb, ha.keep2 hp hm hk⟩
def DmS (p m : Nat) (x : Int) (w : World) (e : Ending) (w' : World) : Prop := e = .returned (.tuple #[.pointer (some ⟨p, 0, none⟩), .pointer (some ⟨m, 0, none⟩)]) ∧ BigI w' m (x % 18446744073709551616) ∧ Keeps (fun i => i = p ∨ i = m) w w'
set_option maxHeartbeats 4000000 in
theorem divMod_any (p q r m : Nat) (x : Int) (w : World) (hp : BigBlk w p) (hq : BigI w q x) (hr : BigAt w r 18446744073709551616) (hm : BigBlk w m) (hpm : p ≠ m) (hx : x.natAbs < 340282366920938463463374607431768211456) (hx0 : x < 0 → x.natAbs < 18446744073709551616) :
    Calls Tryd.prog 39 #[.pointer (some ⟨p, 0, none⟩), .pointer (some ⟨q, 0, none⟩), .pointer (some ⟨r, 0, none⟩), .pointer (some ⟨m, 0, none⟩)] w (DmS p m x w) := by
  obtain ⟨X, hX⟩ : ∃ X, X = w.alloc (.cells #[.bool false, .slice none 0 0] 42) := ⟨_, rfl⟩
  have hBX : Below w.heap.size w X := by rw [hX]; exact (Below.refl _ _).alloc (Nat.le_refl _) _
  have hXb : X.heap[w.heap.size]? = some (.cells #[.bool false, .slice none 0 0] 42 (0, 0)) := by rw [hX]; exact blk_last w _ rfl
  have hpl := hp.lt
  have hql := hq.blk.lt
  have hrl := hr.lt
  have hml := hm.lt
  have HD := Lib.hid (bigSet_any w.heap.size r 18446744073709551616 X (BigAt.zero hXb).blk (hr.below hBX) (by have := top_two; omega) (by omega))
  have HXb := Lib.hid (BigAt.zero hXb).blk
  have HBX := Lib.hid hBX
  have HP := Lib.hid (hp.below hBX)
  have HQ := Lib.hid (hq.below hBX)
  have HR := Lib.hid (hr.below hBX)
  have HM := Lib.hid (hm.below hBX)
  have HX := Lib.hid hX
  clear hX hBX hXb hp hq hr hm
  go_enter Tryd.func39, Tryd.ntmps39
  go_upto_region 1 with fail
  go_wp2_with ((go_at_call 54; rw [← HX.out]; with_reducible refine HD.out.mono ?_; rintro e w1 ⟨rfl, hd1, hk1⟩))
  have hQR : Calls Tryd.prog 55 #[.pointer (some ⟨p, 0, none⟩), .pointer (some ⟨q, 0, none⟩), .pointer (some ⟨r, 0, none⟩), .pointer (some ⟨m, 0, none⟩)] w1 fun e w' => e = .returned (.tuple #[.pointer (some ⟨p, 0, none⟩), .pointer (some ⟨m, 0, none⟩)]) ∧ (∃ k, BigI w' p k ∧ (x.natAbs < 18446744073709551616 → k = 0)) ∧ BigI w' m (x.tmod 18446744073709551616) ∧ Keeps (fun i => i = p ∨ i = m) w1 w' :=
    quoRem_any p q r m x w1 (HP.out.keep hk1 (by omega)) (HQ.out.keep HXb.out (by omega) hk1) (HR.out.keep HXb.out (by omega) hk1) (HM.out.keep hk1 (by omega)) hpm hx
  have HQR := Lib.hid hQR
  have HP1 := Lib.hid (HP.out.keep hk1 (by omega))
  have HM1 := Lib.hid (HM.out.keep hk1 (by omega))
  have HD1 := Lib.hid hd1
  have HK1 := Lib.hid (Keeps.of_below (F := fun i => i = p ∨ i = m) HBX.out |>.trans hk1 (fun i hi e => by omega))
  have hz1 := hk1.size
  have hz0 : w.heap.size < X.heap.size := HXb.out.lt
  clear hd1 hk1 hQR
  go_wp2_with fail
  refine HQR.out.mono ?_
  rintro e w2 ⟨rfl, ⟨k, h1, h2⟩, h3, h4⟩
  have hs3 := h3.sign
  have HK2 := Lib.hid (HK1.out.trans h4 (fun i _ h => h))
  have hz2 := h4.size
  by_cases hneg : x < 0
  · have hx1 := hx0 hneg
    have hk0 := h2 hx1
    subst hk0
    have ht : x.tmod 18446744073709551616 = x := by
      obtain ⟨y, rfl⟩ : ∃ y : Nat, x = -(y : Int) := ⟨x.natAbs, by omega⟩
      rw [Int.neg_tmod, Int.tmod_eq_emod_of_nonneg (by omega)]
      omega
    rw [ht] at h3 hs3
    rw [decide_eq_true hneg] at hs3
    have hd2 := HD1.out.keep2 HP1.out HM1.out (by omega) (by omega) h4
    have hsd := hd2.int.sign
    rw [decide_eq_false (by omega)] at hsd
    have HD2 := Lib.hid hd2
    have HP2 := Lib.hid h1
    have HM2 := Lib.hid h3
    have HNI := Lib.hid (newInt_any 1 w2 (by omega))
    clear h1 h2 h3 h4 hd2
    go_wp2_with fail
    refine HNI.out.mono ?_
    rintro e w3 ⟨rfl, h1, h2⟩
    have hz3 := h2.size
    have hSB := bigSubI_any p p w2.heap.size 0 1 w3 (HP2.out.below h2).blk (HP2.out.below h2) h1.int (by omega) (by have := top_two; omega)
    have HSB := Lib.hid hSB
    have HB3 := Lib.hid h2
    clear h1 h2 hSB
    go_wp2_with fail
    refine HSB.out.mono ?_
    rintro e w4 ⟨rfl, h1, h2⟩
    have hz4 := h2.size
    have hp3 := (HP2.out.below HB3.out).blk
    have hAD := bigAddI_any m m w.heap.size x 18446744073709551616 w4 ((HM2.out.below HB3.out).keep hp3 (Ne.symm hpm) h2).blk ((HM2.out.below HB3.out).keep hp3 (Ne.symm hpm) h2) ((HD2.out.below HB3.out).keep hp3 (by omega) h2).int (by have := top_two; omega)
    have HAD := Lib.hid hAD
    have HK4 := Lib.hid h2
    clear h1 h2 hAD hp3
    go_wp2_with fail
    refine HAD.out.mono ?_
    rintro e w5 ⟨rfl, h1, h2⟩
    have H1 := Lib.hid h1
    have H2 := Lib.hid h2
    clear h1 h2
    go_wp2_with fail
    go_ret2
    refine ⟨rfl, ?_, ?_⟩
    · have := H1.out
      rwa [show x + 18446744073709551616 = x % 18446744073709551616 by omega] at this
    · exact (((HK2.out.below HB3.out).trans HK4.out (fun _ _ h => .inl h))).trans H2.out (fun _ _ h => .inr h)
  · have hr0 : x.tmod 18446744073709551616 = x % 18446744073709551616 := Int.tmod_eq_emod_of_nonneg (by omega)
    rw [hr0] at h3 hs3
    rw [decide_eq_false (by omega)] at hs3
    have H3 := Lib.hid h3
    clear h1 h2 h3 h4
    go_wp2_with fail
    go_ret2
    exact ⟨rfl, H3.out, HK2.out⟩
set_option maxHeartbeats 1000000 in
theorem mod_any (p q r : Nat) (x : Int) (w : World) (hp : BigBlk w p) (hq : BigI w q x) (hr : BigAt w r 18446744073709551616) (hx : x.natAbs < 340282366920938463463374607431768211456) (hx0 : x < 0 → x.natAbs < 18446744073709551616) :
    Calls Tryd.prog 20 #[.pointer (some ⟨p, 0, none⟩), .pointer (some ⟨q, 0, none⟩), .pointer (some ⟨r, 0, none⟩)] w fun e w' => e = .returned (.pointer (some ⟨p, 0, none⟩)) ∧ BigAt w' p (x % 18446744073709551616).toNat ∧ Keeps (fun i => i = p) w w' := by
  obtain ⟨X, hX⟩ : ∃ X, X = w.alloc (.cells #[.bool false, .slice none 0 0] 42) := ⟨_, rfl⟩
  have hBX : Below w.heap.size w X := by rw [hX]; exact (Below.refl _ _).alloc (Nat.le_refl _) _
  have hXb : X.heap[w.heap.size]? = some (.cells #[.bool false, .slice none 0 0] 42 (0, 0)) := by rw [hX]; exact blk_last w _ rfl
  have hpl := hp.lt
  have hD : Calls Tryd.prog 39 #[.pointer (some ⟨w.heap.size, 0, none⟩), .pointer (some ⟨q, 0, none⟩), .pointer (some ⟨r, 0, none⟩), .pointer (some ⟨p, 0, none⟩)] X fun e w' => e = .returned (.tuple #[.pointer (some ⟨w.heap.size, 0, none⟩), .pointer (some ⟨p, 0, none⟩)]) ∧ BigI w' p (x % 18446744073709551616) ∧ Keeps (fun i => i = w.heap.size ∨ i = p) X w' :=
    divMod_any w.heap.size q r p x X (BigAt.zero hXb).blk (hq.below hBX) (hr.below hBX) (hp.below hBX) (by omega) hx hx0
  have HD := Lib.hid hD
  have HX := Lib.hid hX
  have HBX := Lib.hid hBX
  clear hX hBX hXb hp hq hr hD
  go_enter Tryd.func20, Tryd.ntmps20
  go_wp2_with fail
  rw [← HX.out]
  refine HD.out.mono ?_
  rintro e w1 ⟨rfl, h1, h2⟩
  have H1 := Lib.hid h1
  have H2 := Lib.hid h2
  clear h1 h2
  go_wp2_with fail
  go_ret
  refine ⟨rfl, ?_, ?_⟩
  · have := H1.out.pos (by omega)
    rwa [show (x % 18446744073709551616).natAbs = (x % 18446744073709551616).toNat by omega] at this
  · exact (Keeps.of_below (F := fun i => i = p) HBX.out).trans H2.out (fun i hi h => by rcases h with h | h; omega; exact h)
end Go.Proofs.YtjbkfkgdpbjliaaDoor
