/-
  Lists of 32-bit words: what trim and words answer.
-/
import Derived.Test.YtjbkfkgdpbjliaaDoorWordMath
import Derived.Test.YtjbkfkgdpbjliaaDoorMem
import Derived.Test.YtjbkfkgdpbjliaaDoorFoot
namespace Go.Proofs.YtjbkfkgdpbjliaaDoor
set_option maxRecDepth 100000
open Go.RowKit

def u32V (k : Nat) : Value := .int .u32 k
/-- v is the words of n. -/
def AbsOf (w : World) (v : Value) (n : Nat) : Prop := ∃ a c, v = .slice a (wordsN n).length c ∧ Sl w 1 4 a (wordsN n).length c ((wordsN n).map u32V) ∧ ∀ b o x, a = some ⟨b, o, x⟩ → ∃ arr fr, w.heap[b]? = some (.cells arr 66 fr)
theorem AbsOf.below {w w' : World} {v : Value} {n : Nat} (h : AbsOf w v n) (hb : Below w.heap.size w w') : AbsOf w' v n := by
  obtain ⟨a, c, e, hs, ht⟩ := h
  exact ⟨a, c, e, hs.below (by omega) hb, fun b o x hx => by
    obtain ⟨arr, fr, h1⟩ := ht b o x hx
    exact ⟨arr, fr, (hb.block b (lt_of_block h1)).trans h1⟩⟩
theorem sl_words {w : World} {a : Option Addr} {c : Nat} {ws : List Nat} (h : Sl w 1 4 a ws.length c (ws.map u32V)) {m : Nat} (hm : m ≤ ws.length) : Sl w 1 4 a m c ((ws.take m).map u32V) where
  len := by rw [List.length_map, List.length_take]; omega
  room := Nat.le_trans hm h.room
  fits := h.fits
  nil := h.nil
  wide := Nat.le_trans (Nat.mul_le_mul_right _ hm) h.wide
  row := fun h0 => by
    obtain ⟨b, o, e, hr⟩ := h.row (by omega)
    refine ⟨b, o, e, fun j u hu => hr j u ?_⟩
    rw [List.map_take, List.getElem?_take] at hu
    split at hu
    · exact hu
    · cases hu
set_option maxHeartbeats 1000000 in
theorem trim_any (ws : List Nat) (a : Option Addr) (c : Nat) (w : World) (h0 : 0 < ws.length) (hlt : ∀ x ∈ ws, x < 4294967296) (hs : Sl w 1 4 a ws.length c (ws.map u32V)) (hty : ∀ b o x, a = some ⟨b, o, x⟩ → ∃ arr fr, w.heap[b]? = some (.cells arr 66 fr)) :
    Calls Tryd.prog 52 #[.slice a ws.length c] w fun e w' => (∃ v, e = .returned v ∧ AbsOf w v (valW ws)) ∧ w' = w := by
  have hwide := hs.wide
  have hroom := hs.room
  have hfits := hs.fits
  obtain ⟨b, o, rfl, hr⟩ := hs.row h0
  have HTY := Lib.hid hty
  have HS := Lib.hid hs
  have HLT := Lib.hid hlt
  obtain ⟨L, hL⟩ : ∃ L, L = ws.length := ⟨_, rfl⟩
  have HL := Lib.hid hL
  rw [← hL] at hwide hroom h0 ⊢
  clear hs hlt hL hty
  go_enter Tryd.func52, Tryd.ntmps52
  go_wp2_with fail
  go_loopw [3] (fun n wr => ∃ k : Nat, n = .int .i64 k ∧ k ≤ L ∧ (∀ x ∈ ws.drop k, x = 0) ∧ wr = w) (fun n _ => (intOf n).toNat)
  case atStart => exact ⟨L, rfl, Nat.le_refl _, by rw [HL.out, List.drop_length]; simp, rfl⟩
  case round =>
    obtain ⟨k, rfl, hk, hz, hw⟩ := hrel
    subst hw
    have HZ := Lib.hid hz
    clear hz
    rcases Nat.eq_zero_or_pos k with rfl | hk0
    · have ht := trim_words HLT.out HZ.out (Nat.zero_le _) (.inl rfl)
      have hd : decide (0 < ((0 : Nat) : Int)) = false := by decide
      go_wp2_with fail
      go_ret
      refine ⟨⟨_, rfl, some ⟨b, o, none⟩, c, ?_, ?_, HTY.out⟩, rfl⟩
      · rw [← ht]; simp
      · rw [← ht]; exact sl_words HS.out (Nat.zero_le _)
    · obtain ⟨j, rfl⟩ : ∃ j, k = j + 1 := ⟨k - 1, by omega⟩
      obtain ⟨x, hx⟩ : ∃ x, ws[j]? = some x := ⟨ws[j]'(by have := HL.out; omega), by simp⟩
      have hc : wr.cell? ⟨b, o + j, none⟩ = some (.int .u32 x) := hr j _ (by rw [List.getElem?_map, hx]; rfl)
      have hd : decide (0 < ((j + 1 : Nat) : Int)) = true := decide_eq_true (by omega)
      have hj : ((j + 1 : Nat) : Int) - 1 = (j : Int) := by omega
      by_cases hx0 : x = 0
      · subst hx0
        have HX := Lib.hid hx
        clear hx
        go_wp2_with fail
        refine ⟨⟨j, by go_num, by omega, fun y hy => ?_, by first | rfl | trivial⟩, by simp [intOf]⟩
        rw [List.drop_eq_getElem_cons (by have := HL.out; omega)] at hy
        rcases List.mem_cons.1 hy with rfl | hy
        · have := HX.out
          rw [List.getElem?_eq_getElem (by have := HL.out; omega)] at this
          exact Option.some.inj this
        · exact HZ.out y hy
      · have ht := trim_words HLT.out HZ.out (by rw [← HL.out]; exact hk) (.inr (by rw [Nat.add_sub_cancel, hx]; simpa using hx0))
        have HT := Lib.hid ht
        have hxe : ((x : Int) == 0) = false := by simp; omega
        clear hx ht
        go_wp2_with fail
        go_ret
        refine ⟨⟨.slice (some ⟨b, o, none⟩) (j + 1) c, rfl, some ⟨b, o, none⟩, c, ?_, ?_, HTY.out⟩, rfl⟩
        · rw [← HT.out, List.length_take, ← HL.out, Nat.min_eq_left hk]
        · rw [← HT.out]
          have := sl_words HS.out (m := j + 1) (by rw [← HL.out]; exact hk)
          rwa [List.length_take, ← HL.out, Nat.min_eq_left hk]
end Go.Proofs.YtjbkfkgdpbjliaaDoor
