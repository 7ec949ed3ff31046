/-
  The document's product of 64 bits; its fold and hex.
-/
import Derived.Test.YtjbkfkgdpbjliaaDoorBigMod
import Derived.Test.YtjbkfkgdpbjliaaDoorBigStr
namespace Go.Proofs.YtjbkfkgdpbjliaaDoor
set_option maxRecDepth 100000
open Go.RowKit

set_option maxHeartbeats 2000000 in
theorem times_any (p q n m : Nat) (w : World) (hp : BigAt w p n) (hq : BigAt w q m) (hn : n < 18446744073709551616) (hm : m < 18446744073709551616) :
    Calls Tryd.prog 18 #[.pointer (some ⟨p, 0, none⟩), .pointer (some ⟨q, 0, none⟩)] w fun e w' => e = .returned (.pointer (some ⟨w.heap.size, 0, none⟩)) ∧ BigAt w' w.heap.size (n * m % 18446744073709551616) ∧ Below w.heap.size w w' := by
  obtain ⟨X, hX⟩ : ∃ X, X = w.alloc (.cells #[.bool false, .slice none 0 0] 42) := ⟨_, rfl⟩
  have hBX : Below w.heap.size w X := by rw [hX]; exact (Below.refl _ _).alloc (Nat.le_refl _) _
  have hXb : X.heap[w.heap.size]? = some (.cells #[.bool false, .slice none 0 0] 42 (0, 0)) := by rw [hX]; exact blk_last w _ rfl
  have hpl := hp.lt
  have hql := hq.lt
  have htop := top_two
  have HM := Lib.hid (bigMul_any w.heap.size p q n m X (BigAt.zero hXb).blk (hp.below hBX) (hq.below hBX) (by omega) (by omega) (by omega) (by omega))
  have hnm : n * m < 340282366920938463463374607431768211456 := by
    have h1 : n * m ≤ 18446744073709551615 * 18446744073709551615 := Nat.mul_le_mul (by omega) (by omega)
    omega
  have HX := Lib.hid hX
  have HBX := Lib.hid hBX
  have hzX := lt_of_block hXb
  clear hX hBX hXb hp hq htop hpl hql
  go_enter Tryd.func18, Tryd.ntmps18
  go_wp2_with fail
  rw [← HX.out]
  refine HM.out.mono ?_
  rintro e w1 ⟨rfl, h1, h2⟩
  have hz1 := h2.size
  have HK1 := Lib.hid h2
  have HR1 := Lib.hid h1
  obtain ⟨Y, hY⟩ : ∃ Y, Y = w1.alloc (.cells #[.bool false, .slice none 0 0] 42) := ⟨_, rfl⟩
  have hBY : Below w1.heap.size w1 Y := by rw [hY]; exact (Below.refl _ _).alloc (Nat.le_refl _) _
  have hYb : Y.heap[w1.heap.size]? = some (.cells #[.bool false, .slice none 0 0] 42 (0, 0)) := by rw [hY]; exact blk_last w1 _ rfl
  have hzY := lt_of_block hYb
  have HY := Lib.hid hY
  have HBY := Lib.hid hBY
  have HYb := Lib.hid (BigAt.zero hYb)
  clear h1 h2 hY hBY hYb
  go_wp2_with fail
  rw [← HY.out]
  refine (newInt_any 1 Y (by omega)).mono ?_
  rintro e w2 ⟨rfl, h1, h2⟩
  have HL := Lib.hid (bigLsh64_one w1.heap.size Y.heap.size w2 (HYb.out.below h2).blk h1 (by omega))
  have HB2 := Lib.hid h2
  have hz2 := h2.size
  have hzz2 := h1.lt
  clear h1 h2
  go_wp2_with fail
  refine HL.out.mono ?_
  rintro e w3 ⟨rfl, h1, h2⟩
  have hz3 := h2.size
  have hr3 : BigAt w3 w.heap.size (n * m) := (((HR1.out.below HBY.out).below HB2.out).keep (HYb.out.below HB2.out).blk (by omega) h2)
  have HMD := Lib.hid (mod_any w.heap.size w.heap.size w1.heap.size ((n * m : Nat) : Int) w3 hr3.blk hr3.int h1 (by omega) (by omega))
  have HK3 := Lib.hid h2
  clear h1 h2 hr3
  go_wp2_with fail
  refine HMD.out.mono ?_
  rintro e w4 ⟨rfl, h1, h2⟩
  have H1 := Lib.hid h1
  have H2 := Lib.hid h2
  clear h1 h2
  go_wp2_with fail
  go_ret
  refine ⟨rfl, ?_, ?_⟩
  · have := H1.out
    rwa [show (((n * m : Nat) : Int) % 18446744073709551616).toNat = n * m % 18446744073709551616 by omega] at this
  · have k1 := HK1.out.toBelow (B := w.heap.size) (fun i h => by omega) (by omega)
    have k3 := HK3.out.toBelow (B := w.heap.size) (fun i h => by omega) (by omega)
    have k4 := H2.out.toBelow (B := w.heap.size) (fun i h => by omega) (by omega)
    exact ((((HBX.out.trans k1).trans (HBY.out.mono (by omega))).trans (HB2.out.mono (by omega))).trans k3).trans k4
end Go.Proofs.YtjbkfkgdpbjliaaDoor
