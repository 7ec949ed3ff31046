/-
  The document's hex: a number out of its text.
-/
import Derived.Test.YtjbkfkgdpbjliaaDoorTimes
namespace Go.Proofs.YtjbkfkgdpbjliaaDoor
set_option maxRecDepth 100000
open Go.RowKit

set_option maxHeartbeats 1000000 in
theorem hex_any (l : List UInt8) (n : Nat) (w : World) (hl : l.length ≤ 6000) (h1 : allB 16 (cutS l).2 = true) (h2 : (cutS l).2 ≠ []) (h3 : (cutS l).1 = false) (h4 : valB 16 (cutS l).2 = n) :
    Calls Tryd.prog 16 #[.string (txt l)] w fun e w' => e = .returned (.pointer (some ⟨w.heap.size, 0, none⟩)) ∧ BigAt w' w.heap.size n ∧ Below w.heap.size w w' := by
  obtain ⟨X, hX⟩ : ∃ X, X = w.alloc (.cells #[.bool false, .slice none 0 0] 42) := ⟨_, rfl⟩
  have hBX : Below w.heap.size w X := by rw [hX]; exact (Below.refl _ _).alloc (Nat.le_refl _) _
  have hXb : X.heap[w.heap.size]? = some (.cells #[.bool false, .slice none 0 0] 42 (0, 0)) := by rw [hX]; exact blk_last w _ rfl
  have hS : Calls Tryd.prog 17 #[.pointer (some ⟨w.heap.size, 0, none⟩), .string (txt l), .int .i64 16] X fun e w' => e = .returned (.tuple #[.pointer (some ⟨w.heap.size, 0, none⟩), .bool true]) ∧ BigAt w' w.heap.size n ∧ Keeps (fun i => i = w.heap.size) X w' := by
    refine (setString_gen w.heap.size 16 l X (BigAt.zero hXb).blk (.inr rfl) hl).mono ?_
    rintro e w' (⟨_, _, g1, g2, g3⟩ | ⟨g1, _⟩)
    · refine ⟨g1, ?_, g3⟩
      rw [h3, h4] at g2
      unfold BigS at g2
      rwa [if_neg (by simp)] at g2
    · rcases g1 with g1 | g1
      · rw [h1] at g1; cases g1
      · exact absurd g1 h2
  obtain ⟨T, hT⟩ : ∃ T, T = txt l := ⟨_, rfl⟩
  rw [← hT] at hS ⊢
  have HS := Lib.hid hS
  have HX := Lib.hid hX
  have HBX := Lib.hid hBX
  clear hX hBX hXb hS hT h1 h2 h3 h4
  go_enter Tryd.func16, Tryd.ntmps16
  go_wp2_with fail
  rw [← HX.out]
  refine HS.out.mono ?_
  rintro e w1 ⟨rfl, h1, h2⟩
  have H1 := Lib.hid h1
  have H2 := Lib.hid (HBX.out.trans (h2.toBelow (B := w.heap.size) (fun i e => by omega) HBX.out.size))
  clear h1 h2
  go_wp2_with fail
  go_ret
  exact ⟨rfl, H1.out, H2.out⟩
def hexA : List UInt8 := [57, 69, 51, 55, 55, 57, 66, 57, 55, 70, 52, 65, 55, 67, 49, 53]
def hexB : List UInt8 := [66, 70, 53, 56, 52, 55, 54, 68, 49, 67, 69, 52, 69, 53, 66, 57]
def hexC : List UInt8 := [57, 52, 68, 48, 52, 57, 66, 66, 49, 51, 51, 49, 49, 49, 69, 66]
theorem hexA_any (w : World) : Calls Tryd.prog 16 #[.string ⟨#[57, 69, 51, 55, 55, 57, 66, 57, 55, 70, 52, 65, 55, 67, 49, 53]⟩] w fun e w' => e = .returned (.pointer (some ⟨w.heap.size, 0, none⟩)) ∧ BigAt w' w.heap.size 11400714819323198485 ∧ Below w.heap.size w w' :=
  hex_any hexA 11400714819323198485 w (by decide) (by decide) (by decide) (by decide) (by decide +kernel)
theorem hexB_any (w : World) : Calls Tryd.prog 16 #[.string ⟨#[66, 70, 53, 56, 52, 55, 54, 68, 49, 67, 69, 52, 69, 53, 66, 57]⟩] w fun e w' => e = .returned (.pointer (some ⟨w.heap.size, 0, none⟩)) ∧ BigAt w' w.heap.size 13787848793156543929 ∧ Below w.heap.size w w' :=
  hex_any hexB 13787848793156543929 w (by decide) (by decide) (by decide) (by decide) (by decide +kernel)
theorem hexC_any (w : World) : Calls Tryd.prog 16 #[.string ⟨#[57, 52, 68, 48, 52, 57, 66, 66, 49, 51, 51, 49, 49, 49, 69, 66]⟩] w fun e w' => e = .returned (.pointer (some ⟨w.heap.size, 0, none⟩)) ∧ BigAt w' w.heap.size 10723151780598845931 ∧ Below w.heap.size w w' :=
  hex_any hexC 10723151780598845931 w (by decide) (by decide) (by decide) (by decide) (by decide +kernel)
end Go.Proofs.YtjbkfkgdpbjliaaDoor
