/-
  Whole numbers: cmp, Cmp.
-/
import Derived.Test.YtjbkfkgdpbjliaaDoorWordsB
namespace Go.Proofs.YtjbkfkgdpbjliaaDoor
set_option maxRecDepth 100000
open Go.RowKit

def cmpN (n m : Nat) : Int := if n < m then -1 else if n = m then 0 else 1
theorem cmpN_less {n m : Nat} (h : n < m) : cmpN n m = -1 := by rw [cmpN, if_pos h]
theorem cmpN_more {n m : Nat} (h : m < n) : cmpN n m = 1 := by rw [cmpN, if_neg (by omega), if_neg (by omega)]
theorem cmpN_same (n : Nat) : cmpN n n = 0 := by rw [cmpN, if_neg (by omega), if_pos rfl]
set_option maxHeartbeats 2000000 in
theorem cmp_any (n m : Nat) (u v : Value) (w : World) (hn : n < bigTop) (hu : AbsOf w u n) (hv : AbsOf w v m) :
    Calls Tryd.prog 53 #[u, v] w fun e w' => e = .returned (.int .i64 (cmpN n m)) ∧ Below w.heap.size w w' := by
  obtain ⟨a, ca, rfl, hsa, _⟩ := hu
  obtain ⟨b, cb, rfl, hsb, _⟩ := hv
  rcases Nat.lt_trichotomy (wordsN n).length (wordsN m).length with hl | hl | hl
  · have hr := cmpN_less (wordsN_shorter hl)
    rw [hr]
    obtain ⟨la, hla⟩ : ∃ la, la = (wordsN n).length := ⟨_, rfl⟩
    obtain ⟨lb, hlb⟩ : ∃ lb, lb = (wordsN m).length := ⟨_, rfl⟩
    rw [← hla, ← hlb] at hl ⊢
    have h1 : ((la : Int) == (lb : Int)) = false := by simp; omega
    have h1' : (la == lb) = false := by simp; omega
    have h2 : decide (la < lb) = true := by simp; omega
    clear hla hlb hsa hsb hr
    go_enter Tryd.func53, Tryd.ntmps53
    go_wp2_with fail
    go_ret
    exact ⟨rfl, Below.refl _ _⟩
  · have hlta := wordsN_lt n
    have hva := wordsN_val n
    have hltb := wordsN_lt m
    have hvb := wordsN_val m
    have hL2 := wordsN_len hn
    obtain ⟨A, hA⟩ : ∃ A, A = wordsN n := ⟨_, rfl⟩
    obtain ⟨B, hB⟩ : ∃ B, B = wordsN m := ⟨_, rfl⟩
    rw [← hA] at hsa hlta hva hl hL2 ⊢
    rw [← hB] at hsb hltb hvb hl ⊢
    obtain ⟨L, hL⟩ : ∃ L, L = A.length := ⟨_, rfl⟩
    rw [← hl] at hsb ⊢
    rw [← hL] at hsa hsb hL2 ⊢
    have HSA := Lib.hid hsa
    have HSB := Lib.hid hsb
    have HL := Lib.hid hL
    have HLB := Lib.hid (hL.trans hl)
    have HVA := Lib.hid hva
    have HVB := Lib.hid hvb
    have HTA := Lib.hid hlta
    have HTB := Lib.hid hltb
    clear hsa hsb hA hB hl hL hlta hltb hva hvb
    go_enter Tryd.func53, Tryd.ntmps53
    go_wp2_with fail
    go_loopw [5] (fun i wr => ∃ j : Nat, i = .int .i64 ((j : Int) - 1) ∧ j ≤ L ∧ Aside (A.drop j = B.drop j) ∧ Below w.heap.size w wr) (fun i _ => (intOf i + 1).toNat)
    case atStart => exact ⟨L, rfl, Nat.le_refl _, by show _ = _; rw [List.drop_of_length_le (by have := HL.out; omega), List.drop_of_length_le (by have := HLB.out; omega)], Below.refl _ _⟩
    case round =>
      obtain ⟨j, rfl, hj, HD, hBw⟩ := hrel
      rcases Nat.eq_zero_or_pos j with rfl | hj0
      · have hAB : n = m := by have h := HD.out; rw [List.drop_zero, List.drop_zero] at h; rw [← HVA.out, ← HVB.out, h]
        have HAB := Lib.hid hAB
        rw [show ((0 : Nat) : Int) - 1 = -1 from rfl]
        clear hAB
        go_wp2_with fail
        go_ret
        exact ⟨by rw [HAB.out, cmpN_same]; rfl, hBw⟩
      · obtain ⟨t, rfl⟩ : ∃ t, j = t + 1 := ⟨j - 1, by omega⟩
        rw [show ((t + 1 : Nat) : Int) - 1 = (t : Int) by omega]
        obtain ⟨x, hx⟩ : ∃ x, A[t]? = some x := ⟨A[t]'(by have := HL.out; omega), by simp⟩
        obtain ⟨y, hy⟩ : ∃ y, B[t]? = some y := ⟨B[t]'(by have := HLB.out; omega), by simp⟩
        obtain ⟨p, o, rfl, hr⟩ := (HSA.out.below (by omega) hBw).row (by omega)
        obtain ⟨p', o', rfl, hr'⟩ := (HSB.out.below (by omega) hBw).row (by omega)
        have hc0 : wr.drew.cell? ⟨p, o + t, none⟩ = some (.int .u32 x) := hr t _ (by rw [List.getElem?_map, hx]; rfl)
        have hc1 : wr.drew.cell? ⟨p', o' + t, none⟩ = some (.int .u32 y) := hr' t _ (by rw [List.getElem?_map, hy]; rfl)
        have hd0 : wr.drew.drew.cell? ⟨p, o + t, none⟩ = some (.int .u32 x) := hr t _ (by rw [List.getElem?_map, hx]; rfl)
        have hd1 : wr.drew.drew.cell? ⟨p', o' + t, none⟩ = some (.int .u32 y) := hr' t _ (by rw [List.getElem?_map, hy]; rfl)
        have hx1 := HTA.out x (List.mem_of_getElem? hx)
        have hy1 := HTB.out y (List.mem_of_getElem? hy)
        clear hr hr'
        rcases Nat.lt_trichotomy x y with hxy | rfl | hxy
        · have hres := cmpN_less (n := n) (m := m) (by rw [← HVA.out, ← HVB.out]; exact valW_less hx hy HTA.out HD.out hxy)
          have HRES := Lib.hid hres
          have h1 : ((x : Int) == (y : Int)) = false := by simp; omega
          have h1' : (x == y) = false := by simp; omega
          have h2 : decide (x < y) = true := by simp; omega
          clear hx hy hres
          go_wp2_with fail
          go_region
          go_wp2_with fail
          go_region
          go_wp2_with fail
          go_ret
          exact ⟨by rw [HRES.out]; rfl, hBw.drew.drew⟩
        · have HD2 : Aside (A.drop t = B.drop t) := by
            show _ = _
            rw [List.drop_eq_getElem_cons (by have := HL.out; omega), List.drop_eq_getElem_cons (i := t) (l := B) (by have := HLB.out; omega), HD.out]
            rw [List.getElem?_eq_getElem (by have := HL.out; omega)] at hx
            rw [List.getElem?_eq_getElem (by have := HLB.out; omega)] at hy
            rw [Option.some.inj hx, Option.some.inj hy]
          clear hx hy
          go_wp2_with fail
          go_region
          go_wp2_with fail
          exact ⟨⟨t, rfl, by omega, HD2, hBw.drew⟩, by simp [intOf]⟩
        · have hres := cmpN_more (n := n) (m := m) (by rw [← HVA.out, ← HVB.out]; exact valW_less hy hx HTB.out HD.out.symm hxy)
          have HRES := Lib.hid hres
          have h1 : ((x : Int) == (y : Int)) = false := by simp; omega
          have h1' : (x == y) = false := by simp; omega
          have h2 : decide (x < y) = false := by simp; omega
          clear hx hy hres
          go_wp2_with fail
          go_region
          go_wp2_with fail
          go_region
          go_wp2_with fail
          go_ret
          exact ⟨by rw [HRES.out]; rfl, hBw.drew.drew⟩
  · have hr := cmpN_more (wordsN_shorter hl)
    rw [hr]
    obtain ⟨la, hla⟩ : ∃ la, la = (wordsN n).length := ⟨_, rfl⟩
    obtain ⟨lb, hlb⟩ : ∃ lb, lb = (wordsN m).length := ⟨_, rfl⟩
    rw [← hla, ← hlb] at hl ⊢
    have h1 : ((la : Int) == (lb : Int)) = false := by simp; omega
    have h1' : (la == lb) = false := by simp; omega
    have h2 : decide (la < lb) = false := by simp; omega
    clear hla hlb hsa hsb hr
    go_enter Tryd.func53, Tryd.ntmps53
    go_wp2_with fail
    go_ret
    exact ⟨rfl, Below.refl _ _⟩
end Go.Proofs.YtjbkfkgdpbjliaaDoor
