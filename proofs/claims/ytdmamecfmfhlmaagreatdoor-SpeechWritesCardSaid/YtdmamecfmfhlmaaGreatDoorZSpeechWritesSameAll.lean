/-
  Are two requests alike: the document's answer, and the program's.
-/
import Derived.Test.YtdmamecfmfhlmaaGreatDoorSameCells
import Derived.Test.YtdmamecfmfhlmaaGreatDoorZSpeechWritesRead7
import Derived.Test.YtdmamecfmfhlmaaGreatDoorZSpeechWrites35
namespace Go.Proofs.YtdmamecfmfhlmaaGreatDoor
set_option maxRecDepth 100000
open Go.RowKit

theorem take_next {α : Type} {xs ys : List α} {k : Nat} {c d : α} (h : xs.take k = ys.take k) (hc : xs[k]? = some c) (hd : ys[k]? = some d) (e : c = d) : xs.take (k + 1) = ys.take (k + 1) := by
  rw [List.take_add_one, List.take_add_one, hc, hd, h, e]
theorem nth_ne {α : Type} {xs ys : List α} {k : Nat} {c d : α} (hc : xs[k]? = some c) (hd : ys[k]? = some d) (e : c ≠ d) : xs ≠ ys := fun h => by
  subst h
  rw [hc] at hd
  exact e (Option.some.inj hd)
set_option maxHeartbeats 4000000 in
theorem sameCG_any (xs ys : List (Int × Int)) (a a' : Option Addr) (cap cap' : Nat) (w : World) (h1 : Sl w 2 16 a xs.length cap (xs.flatMap encCell)) (h2 : Sl w 2 16 a' ys.length cap' (ys.flatMap encCell)) :
    Calls Tryz.prog 34 #[.slice a xs.length cap, .slice a' ys.length cap'] w fun e w' => e = .returned (.bool (decide (xs = ys))) ∧ Below w.heap.size w w' := by
  have hn := h1.wide
  obtain ⟨n, hN⟩ : ∃ n, n = xs.length := ⟨_, rfl⟩
  obtain ⟨m, hM⟩ : ∃ m, m = ys.length := ⟨_, rfl⟩
  rw [← hN] at h1 hn
  rw [← hM] at h2
  rw [← hN, ← hM]
  have HN := Lib.hid hN
  have HM := Lib.hid hM
  clear hN hM
  by_cases hnm : n = m
  · subst hnm
    go_enter Tryz.func34, Tryz.ntmps34
    go_wp2_with fail
    go_loopw [5, 13] (fun _ i wr => ∃ k : Nat, i = .int .i64 k ∧ k ≤ n ∧ Aside (xs.take k = ys.take k) ∧ Below w.heap.size w wr) (fun _ i _ => n - (intOf i).toNat)
    case atStart => exact ⟨0, rfl, Nat.zero_le _, rfl, Below.refl _ _⟩
    case round =>
      obtain ⟨k, rfl, hk, HI, hB⟩ := hrel
      by_cases hlt : k < n
      · obtain ⟨c, hc⟩ : ∃ c, xs[k]? = some c := ⟨xs[k]'(by have := HN.out; omega), by simp⟩
        obtain ⟨d, hd⟩ : ∃ d, ys[k]? = some d := ⟨ys[k]'(by have := HM.out; omega), by simp⟩
        obtain ⟨b, o, rfl, hrow⟩ := h1.row (by omega)
        obtain ⟨b', o', rfl, hrow'⟩ := h2.row (by omega)
        have hb := h1.lt (by omega) (by omega)
        have hb' := h2.lt (by omega) (by omega)
        have e0 := (hB.cell (p := ⟨b, o + k * 2, none⟩) hb).trans (hrow _ _ (flat_nthC hc).1)
        have e1 : wr.cell? ⟨b, o + k * 2 + 1, none⟩ = some (.int .i64 c.2) := (hB.cell (p := ⟨b, o + k * 2 + 1, none⟩) hb).trans (by have := hrow _ _ (flat_nthC hc).2; rw [← Nat.add_assoc] at this; exact this)
        have f0 := (hB.cell (p := ⟨b', o' + k * 2, none⟩) hb').trans (hrow' _ _ (flat_nthC hd).1)
        have f1 : wr.cell? ⟨b', o' + k * 2 + 1, none⟩ = some (.int .i64 d.2) := (hB.cell (p := ⟨b', o' + k * 2 + 1, none⟩) hb').trans (by have := hrow' _ _ (flat_nthC hd).2; rw [← Nat.add_assoc] at this; exact this)
        have HCC := Lib.hid hc
        have HDD := Lib.hid hd
        clear hc hd hrow hrow'
        obtain ⟨x, y⟩ := c
        obtain ⟨u, v⟩ := d
        dsimp only at e0 e1 f0 f1
        rcases (show (x = u ∧ y = v) ∨ (x = u ∧ y ≠ v) ∨ x ≠ u by omega) with ⟨rfl, rfl⟩ | ⟨rfl, hne⟩ | hne
        · go_wp2_with fail
          go_quiet (fail)
          go_wp2_with fail
          exact ⟨⟨k + 1, by go_num, by omega, take_next HI.out HCC.out HDD.out rfl, hB.trans (Joins.below_draws _ _ _)⟩, by simp [intOf]; omega⟩
        · have HNE := Lib.hid (show decide (xs = ys) = false from decide_eq_false (nth_ne HCC.out HDD.out (fun e => by simp only [Prod.mk.injEq] at e; omega)))
          have hb1 : (y == v) = false := by rw [beq_eq_false_iff_ne]; exact hne
          go_wp2_with fail
          go_quiet (fail)
          go_wp2_with fail
          go_ret
          exact ⟨by rw [HNE.out]; rfl, hB.trans (Joins.below_draws _ _ _)⟩
        · have HNE := Lib.hid (show decide (xs = ys) = false from decide_eq_false (nth_ne HCC.out HDD.out (fun e => by simp only [Prod.mk.injEq] at e; omega)))
          have hb1 : (x == u) = false := by rw [beq_eq_false_iff_ne]; exact hne
          go_wp2_with fail
          go_quiet (fail)
          go_wp2_with fail
          go_ret
          exact ⟨by rw [HNE.out]; rfl, hB.trans (Joins.below_draws _ _ _)⟩
      · obtain rfl : k = n := by omega
        have HE := Lib.hid (show decide (xs = ys) = true from decide_eq_true (by
          have h1 := HI.out
          have e1 : xs.take k = xs := by rw [HN.out, List.take_length]
          have e2 : ys.take k = ys := by rw [HM.out, List.take_length]
          rw [e1, e2] at h1
          exact h1))
        go_wp2_with fail
        go_ret
        exact ⟨by rw [HE.out]; rfl, hB⟩
  · have HNE := Lib.hid (show decide (xs = ys) = false from decide_eq_false (fun e => hnm (by rw [HN.out, HM.out, e])))
    have t1 : ¬ ((n : Int) = (m : Int)) := by omega
    have t2 : ((n : Int) == (m : Int)) = false := by rw [beq_eq_false_iff_ne]; exact t1
    go_enter Tryz.func34, Tryz.ntmps34
    go_wp2_with fail
    go_ret
    exact ⟨by rw [HNE.out]; rfl, Below.refl _ _⟩
end Go.Proofs.YtdmamecfmfhlmaaGreatDoor
