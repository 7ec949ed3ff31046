/-
  Whole numbers: a 0 that is given with a sign.
-/
import Derived.Test.YtjbkfkgdpbjliaaDoorAddAny
namespace Go.Proofs.YtjbkfkgdpbjliaaDoor
set_option maxRecDepth 100000
open Go.RowKit

set_option maxHeartbeats 1000000 in
theorem give_zero (p : Nat) (v : Value) (w : World) (hp : BigBlk w p) (hv : AbsOf w v 0) :
    Calls Tryd.prog 31 #[.pointer (some ⟨p, 0, none⟩), .bool true, v] w fun e w' => e = .returned (.pointer (some ⟨p, 0, none⟩)) ∧ BigAt w' p 0 ∧ Keeps (fun i => i = p) w w' := by
  have HP := Lib.hid hp
  have HV := Lib.hid hv
  obtain ⟨f, sa, sn, sc, hb⟩ := hp
  obtain ⟨a, c, rfl, hs, _⟩ := hv
  obtain ⟨L, hL⟩ : ∃ L, L = (wordsN 0).length := ⟨_, rfl⟩
  have HL := Lib.hid hL
  have hL2 : L ≤ 140737488351232 := by rw [hL]; have := hs.wide; omega
  have hL0 : L = 0 := by rw [hL]; rfl
  have t1 : decide ((L : Int) > 0) = false := decide_eq_false (by omega)
  have t2 : decide (0 < L) = false := decide_eq_false (by omega)
  have t3 : decide (0 < (L : Int)) = false := decide_eq_false (by omega)
  rw [← hL] at HV ⊢
  have hlt := lt_of_block hb
  have f0 : w.frozen? ⟨p, 0, none⟩ = false := Joins.unfrozen_of_block hb 0
  have f1 : w.frozen? ⟨p, 1, none⟩ = false := Joins.unfrozen_of_block hb 1
  have c0 : w.cell? ⟨p, 0, none⟩ = some (.bool f) := Joins.cell_of_block hb 0
  have c1 : w.cell? ⟨p, 1, none⟩ = some (.slice sa sn sc) := Joins.cell_of_block hb 1
  have hb2 := Joins.block_setCell (Joins.block_setCell (i := 1) hb (.slice a L c)) (i := 0) (.bool false)
  have hk2 : Keeps (fun i => i = p) w ((w.setCell ⟨p, 1, none⟩ (.slice a L c)).setCell ⟨p, 0, none⟩ (.bool false)) := Keeps.setCell (Keeps.setCell (Keeps.refl (fun i => i = p) w) (p := ⟨p, 1, none⟩) (fun _ => rfl) _) (p := ⟨p, 0, none⟩) (fun _ => rfl) _
  have HB2 := Lib.hid hb2
  have HK2 := Lib.hid hk2
  clear hs hL hb hb2 hk2 hL0
  go_enter Tryd.func31, Tryd.ntmps31
  go_wp2_with fail
  go_ret
  refine ⟨rfl, ⟨.slice a L c, ?_, ?_⟩, HK2.out⟩
  · have := HB2.out
    simpa using this
  · exact HV.out.keep HP.out HK2.out
/-- A whole number in memory. -/
def BigI (w : World) (p : Nat) (i : Int) : Prop := if i < 0 then BigNg w p i.natAbs else BigAt w p i.natAbs
theorem BigI.neg {w : World} {p : Nat} {i : Int} (h : BigI w p i) (hi : i < 0) : BigNg w p i.natAbs := by rw [BigI, if_pos hi] at h; exact h
theorem BigI.pos {w : World} {p : Nat} {i : Int} (h : BigI w p i) (hi : 0 ≤ i) : BigAt w p i.natAbs := by rw [BigI, if_neg (by omega)] at h; exact h
theorem BigAt.int {w : World} {p n : Nat} (h : BigAt w p n) : BigI w p n := by rw [BigI, if_neg (by omega)]; exact h
theorem BigNg.int {w : World} {p n : Nat} (h : BigNg w p n) (hn : 0 < n) : BigI w p (-(n : Int)) := by
  rw [BigI, if_pos (by omega), show (-(n : Int)).natAbs = n by omega]; exact h
theorem giveI_any (p k : Nat) (s : Bool) (v : Value) (w : World) (hp : BigBlk w p) (hv : AbsOf w v k) :
    Calls Tryd.prog 31 #[.pointer (some ⟨p, 0, none⟩), .bool s, v] w fun e w' => e = .returned (.pointer (some ⟨p, 0, none⟩)) ∧ BigI w' p (sgn s k) ∧ Keeps (fun i => i = p) w w' := by
  cases s
  · refine (give_any p k v w hp hv).mono ?_
    rintro e w' ⟨h1, h2, h3⟩
    exact ⟨h1, h2.int, h3⟩
  · rcases Nat.eq_zero_or_pos k with rfl | hk
    · refine (give_zero p v w hp hv).mono ?_
      rintro e w' ⟨h1, h2, h3⟩
      exact ⟨h1, h2.int, h3⟩
    · refine (give_neg p k v w hp hv hk).mono ?_
      rintro e w' ⟨h1, h2, h3⟩
      exact ⟨h1, h2.int hk, h3⟩
end Go.Proofs.YtjbkfkgdpbjliaaDoor
