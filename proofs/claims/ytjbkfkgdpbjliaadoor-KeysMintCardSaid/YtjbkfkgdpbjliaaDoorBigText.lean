/-
  Whole numbers: SetString of digits.
-/
import Derived.Test.YtjbkfkgdpbjliaaDoorBigMul
import Derived.Test.YtjbkfkgdpbjliaaDoorTexts
namespace Go.Proofs.YtjbkfkgdpbjliaaDoor
set_option maxRecDepth 100000
open Go.RowKit

/-- The number of decimal digits. -/
def decV (l : List UInt8) : Nat := l.foldl (fun v c => v * 10 + (c.toNat - 48)) 0
theorem decV_take {l : List UInt8} {k : Nat} {c : UInt8} (h : l[k]? = some c) : decV (l.take (k + 1)) = decV (l.take k) * 10 + (c.toNat - 48) := by
  rw [List.take_add_one, h]
  show decV (l.take k ++ [c]) = _
  rw [decV, List.foldl_append]
  rfl
def digB (c : UInt8) : Prop := 48 ≤ c.toNat ∧ c.toNat ≤ 57
theorem decV_lt (l : List UInt8) (hd : ∀ c ∈ l, digB c) : ∀ k, k ≤ l.length → decV (l.take k) < 10 ^ k
  | 0, _ => by simp [decV]
  | k + 1, h => by
    have ih := decV_lt l hd k (by omega)
    have hx : l[k]? = some l[k] := List.getElem?_eq_getElem (by omega)
    have h2 := hd _ (List.mem_of_getElem? hx)
    unfold digB at h2
    rw [decV_take hx, Nat.pow_succ]
    omega
theorem txt_get {l : List UInt8} {k : Nat} {c : UInt8} (h : l[k]? = some c) (hk : k < (txt l).size) : (txt l)[k].toNat = c.toNat := by
  have : (txt l)[k] = c := (List.getElem?_eq_some_iff.1 h).2
  rw [this]
theorem AbsOf.zero (w : World) : AbsOf w (.slice none 0 0) 0 := ⟨none, 0, rfl, ⟨rfl, Nat.le_refl _, by unfold maxLen; omega, fun _ => rfl, by rw [wordsN_zero]; decide, fun h => absurd h (by simp [wordsN_zero])⟩, fun _ _ _ h => by cases h⟩
set_option maxHeartbeats 4000000 in
theorem setString_any (p : Nat) (l : List UInt8) (w : World) (hp : BigBlk w p) (hd : ∀ c ∈ l, digB c) (h0 : 0 < l.length) (h18 : l.length ≤ 18) :
    Calls Tryd.prog 17 #[.pointer (some ⟨p, 0, none⟩), .string (txt l), .int .i64 10] w fun e w' => e = .returned (.tuple #[.pointer (some ⟨p, 0, none⟩), .bool true]) ∧ BigAt w' p (decV l) ∧ Keeps (fun i => i = p) w w' := by
  obtain ⟨S, hS⟩ : ∃ S, S = txt l := ⟨_, rfl⟩
  have hsz : S.size = l.length := by rw [hS, txt_size]
  have hlim : ∀ k, k ≤ l.length → decV (l.take k) < 1000000000000000000 := fun k hk => Nat.lt_of_lt_of_le (decV_lt l hd k hk) (by
    have : 10 ^ k ≤ 10 ^ 18 := Nat.pow_le_pow_right (by omega) (by omega)
    exact this)
  have HLIM := Lib.hid hlim
  obtain ⟨c0, hc0⟩ : ∃ c0, l[0]? = some c0 := ⟨l[0], List.getElem?_eq_getElem h0⟩
  have hsp : 0 < S.size := by omega
  have hg0 : S[0].toNat = c0.toNat := by subst hS; exact txt_get hc0 hsp
  have hd0 := hd c0 (List.mem_of_getElem? hc0)
  unfold digB at hd0
  obtain ⟨m0, hm0⟩ : ∃ m0, m0 = c0.toNat := ⟨_, rfl⟩
  rw [← hm0] at hg0 hd0
  have e1 : ((m0 : Int) == 45) = false := by simp; omega
  have e2 : ((m0 : Int) == 43) = false := by simp; omega
  have e3 : (m0 == 45) = false := by simp; omega
  have e4 : (m0 == 43) = false := by simp; omega
  obtain ⟨n, hn⟩ : ∃ n, n = l.length := ⟨_, rfl⟩
  have HN := Lib.hid hn
  rw [← hn] at hsz h0 h18
  have hz : ((n : Int) == 0) = false := by simp; omega
  have hz' : (n == 0) = false := by simp; omega
  rw [← hS]
  have HS := Lib.hid hS
  have HD := Lib.hid hd
  have HP := Lib.hid hp
  clear hp hd hlim hc0 hm0 hn hS
  go_enter Tryd.func17, Tryd.ntmps17
  go_wp2_with fail
  go_loopw [9, 10] (fun r i wr => ∃ k : Nat, i = .int .i64 k ∧ k ≤ n ∧ AbsOf wr r (decV (l.take k)) ∧ Below w.heap.size w wr) (fun _ i _ => n - (intOf i).toNat)
  case atStart => exact ⟨0, rfl, Nat.zero_le _, AbsOf.zero _, Below.refl _ _⟩
  case round =>
    obtain ⟨k, rfl, hk, hA, hBw⟩ := hrel
    have hdn := HLIM.out k (by rw [← HN.out]; exact hk)
    obtain ⟨v, hv⟩ : ∃ v, v = decV (l.take k) := ⟨_, rfl⟩
    rw [← hv] at hA hdn
    by_cases hlt : k < n
    · obtain ⟨c, hc⟩ : ∃ c, l[k]? = some c := ⟨l[k]'(by have := HN.out; omega), List.getElem?_eq_getElem (by have := HN.out; omega)⟩
      have hks : k < S.size := by omega
      have hg : S[k].toNat = c.toNat := by have h := HS.out; subst h; exact txt_get hc hks
      have hd1 := HD.out c (List.mem_of_getElem? hc)
      unfold digB at hd1
      have hnx := decV_take hc
      rw [← hv] at hnx
      obtain ⟨y, hy⟩ : ∃ y, y = c.toNat := ⟨_, rfl⟩
      rw [← hy] at hg hd1 hnx
      obtain ⟨d, hdd⟩ : ∃ d, d = y - 48 := ⟨_, rfl⟩
      rw [← hdd] at hnx
      have hyI : (y : Int) - 48 = (d : Int) := by omega
      have hd9 : d ≤ 9 := by omega
      have HNX := Lib.hid hnx
      have HA := Lib.hid hA
      clear hnx hA hc hy hdd hv
      have hdk : decide (k < n) = true := decide_eq_true hlt
      go_wp2_with fail
      refine (words_any 10 _ (by omega)).mono ?_
      rintro e w1 ⟨⟨v1, rfl, hv1⟩, hb1⟩
      have HM := Lib.hid (mul_any v 10 _ v1 w1 (by omega) (by omega) (by have := bigTop_ge; omega) (HA.out.below hb1) hv1)
      have HB1 := Lib.hid (hBw.trans (hb1.mono hBw.size))
      clear hv1 hb1
      go_wp2_with fail
      refine HM.out.mono ?_
      rintro e w2 ⟨⟨v2, rfl, hv2⟩, hb2⟩
      have HV2 := Lib.hid hv2
      have HB2 := Lib.hid (HB1.out.trans (hb2.mono HB1.out.size))
      clear hv2 hb2
      go_wp2_with fail
      refine (words_any d _ (by omega)).mono ?_
      rintro e w3 ⟨⟨v3, rfl, hv3⟩, hb3⟩
      have HAD := Lib.hid (add_any (v * 10) d v2 v3 w3 (by have := bigTop_ge; omega) (HV2.out.below hb3) hv3)
      have HB3 := Lib.hid (HB2.out.trans (hb3.mono HB2.out.size))
      clear hv3 hb3
      go_wp2_with fail
      refine HAD.out.mono ?_
      rintro e w4 ⟨⟨v4, rfl, hv4⟩, hb4⟩
      have HV4 := Lib.hid hv4
      have HB4 := Lib.hid (HB3.out.trans (hb4.mono HB3.out.size))
      clear hv4 hb4
      go_wp2_with fail
      exact ⟨⟨k + 1, by go_num, by omega, by rw [HNX.out]; exact HV4.out, HB4.out⟩, by simp [intOf]; omega⟩
    · obtain rfl : k = n := by omega
      have hend : v = decV l := by rw [hv, List.take_of_length_le (by rw [← HN.out]; exact Nat.le_refl _)]
      have HG := Lib.hid (give_any p v _ _ (HP.out.below hBw) hA)
      have HE := Lib.hid hend
      have HK := Lib.hid (Keeps.of_below (F := fun i => i = p) hBw)
      clear hend hA hv
      go_wp2_with fail
      refine HG.out.mono ?_
      rintro e w2 ⟨rfl, h1, h2⟩
      have H1 := Lib.hid h1
      have H2 := Lib.hid (HK.out.trans h2 (fun _ _ h => h))
      clear h1 h2
      go_wp2_with fail
      refine bodyPost_ret (v := .tuple #[.pointer (some ⟨p, 0, none⟩), .bool true]) (by simp [results, Tryd.results17, go_sem]) rfl ⟨rfl, by rw [← HE.out]; exact H1.out, H2.out⟩
end Go.Proofs.YtjbkfkgdpbjliaaDoor
