/-
  The document's SameCells.
-/
import Derived.Test.YtdmamecfmfhlmaaGreatDoorKinds
namespace Go.Proofs.YtdmamecfmfhlmaaGreatDoor
set_option maxRecDepth 100000
open Go.RowKit

theorem flat_nthC {xs : List (Int × Int)} {k : Nat} {c : Int × Int} (h : xs[k]? = some c) : (xs.flatMap encCell)[k * 2]? = some (.int .i64 c.1) ∧ (xs.flatMap encCell)[k * 2 + 1]? = some (.int .i64 c.2) :=
  ⟨flat_at (k := 2) (enc := encCell) (by omega) (fun _ => rfl) xs k 0 c h (by omega), flat_at (k := 2) (enc := encCell) (by omega) (fun _ => rfl) xs k 1 c h (by omega)⟩
set_option maxHeartbeats 1000000 in
theorem sameC_any (xs : List (Int × Int)) (a a' : Option Addr) (cap cap' : Nat) (w : World) (h1 : Sl w 2 16 a xs.length cap (xs.flatMap encCell)) (h2 : Sl w 2 16 a' xs.length cap' (xs.flatMap encCell)) :
    Calls Tryz.prog 34 #[.slice a xs.length cap, .slice a' xs.length cap'] w fun e w' => e = .returned (.bool true) ∧ Below w.heap.size w w' := by
  have hn := h1.wide
  obtain ⟨n, hN⟩ : ∃ n, n = xs.length := ⟨_, rfl⟩
  rw [← hN] at h1 h2 hn ⊢
  have HN := Lib.hid hN
  clear hN
  go_enter Tryz.func34, Tryz.ntmps34
  go_wp2_with fail
  go_loopw [13] (fun i wr => ∃ k : Nat, i = .int .i64 k ∧ k ≤ n ∧ Below w.heap.size w wr) (fun i _ => n - (intOf i).toNat)
  case atStart => exact ⟨0, rfl, Nat.zero_le _, Below.refl _ _⟩
  case round =>
    obtain ⟨k, rfl, hk, hB⟩ := hrel
    by_cases hlt : k < n
    · obtain ⟨c, hc⟩ : ∃ c, xs[k]? = some c := ⟨xs[k]'(by have := HN.out; omega), by simp⟩
      obtain ⟨b, o, rfl, hrow⟩ := h1.row (by omega)
      obtain ⟨b', o', rfl, hrow'⟩ := h2.row (by omega)
      have hb := h1.lt (by omega) (by omega)
      have hb' := h2.lt (by omega) (by omega)
      have e0 := (hB.cell (p := ⟨b, o + k * 2, none⟩) hb).trans (hrow _ _ (flat_nthC hc).1)
      have e1 : wr.cell? ⟨b, o + k * 2 + 1, none⟩ = some (.int .i64 c.2) := (hB.cell (p := ⟨b, o + k * 2 + 1, none⟩) hb).trans (by have := hrow _ _ (flat_nthC hc).2; rw [← Nat.add_assoc] at this; exact this)
      have f0 := (hB.cell (p := ⟨b', o' + k * 2, none⟩) hb').trans (hrow' _ _ (flat_nthC hc).1)
      have f1 : wr.cell? ⟨b', o' + k * 2 + 1, none⟩ = some (.int .i64 c.2) := (hB.cell (p := ⟨b', o' + k * 2 + 1, none⟩) hb').trans (by have := hrow' _ _ (flat_nthC hc).2; rw [← Nat.add_assoc] at this; exact this)
      clear hc hrow hrow'
      obtain ⟨x, y⟩ := c
      dsimp only at e0 e1 f0 f1
      go_wp2_with fail
      go_quiet (fail)
      go_wp2_with fail
      exact ⟨⟨k + 1, by go_num, by omega, hB.trans (Joins.below_draws _ _ _)⟩, by simp [intOf]; omega⟩
    · obtain rfl : k = n := by omega
      go_wp2_with fail
      go_ret
      exact ⟨rfl, hB⟩
end Go.Proofs.YtdmamecfmfhlmaaGreatDoor
