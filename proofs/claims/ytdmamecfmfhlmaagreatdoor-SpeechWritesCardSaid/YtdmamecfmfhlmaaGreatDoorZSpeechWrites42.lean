/-
  The document's signed: a text as a whole number of at most 18 digits; Plain laws of reading a rule: a bit put in by 'or' or by '+'; what is read from the middle of a text.
-/
import Derived.Test.YtdmamecfmfhlmaaGreatDoorZSpeechWritesBigSign
import Derived.Test.YtdmamecfmfhlmaaGreatDoorZSpeechWritesBigStr
import Derived.Test.YtdmamecfmfhlmaaGreatDoorZSpeechWritesReads
namespace Go.Proofs.YtdmamecfmfhlmaaGreatDoor
set_option maxRecDepth 100000
open Go.RowKit

/-- What signed answers. -/
def signA (l : List UInt8) : Value := .tuple #[.int .i64 (if signOk l = true then signV l else 0), .bool (signOk l)]
theorem signA_no {l : List UInt8} (h : signOk l = false) : signA l = .tuple #[.int .i64 0, .bool false] := by rw [signA, h]; rfl
theorem signA_yes {l : List UInt8} (h : signOk l = true) : signA l = .tuple #[.int .i64 (signV l), .bool true] := by rw [signA, h]; rfl
theorem BigS.below {w w' : World} {p n : Nat} {ng : Bool} (h : BigS w p ng n) (hb : Below w.heap.size w w') : BigS w' p ng n := by
  unfold BigS at h ⊢
  by_cases hc : ng = true ∧ 0 < n
  · rw [if_pos hc] at h ⊢; exact h.below hb
  · rw [if_neg hc] at h ⊢; exact h.below hb
theorem signV_flag (ng : Bool) (n : Nat) : (if (ng && decide (0 < n)) = true then -(n : Int) else (n : Int)) = if ng = true then -(n : Int) else (n : Int) := by
  cases ng with
  | false => rfl
  | true =>
    by_cases h : 0 < n
    · rw [decide_eq_true h]; rfl
    · have : n = 0 := by omega
      subst this; rfl
set_option maxHeartbeats 4000000 in
theorem signed_any (l : List UInt8) (w : World) (hl : l.length ≤ 6000) :
    Calls Tryz.prog 33 #[.string (txt l)] w fun e w' => e = .returned (signA l) ∧ Below w.heap.size w w' := by
  have HS := Lib.hid (fun w1 h => setString_gen w.heap.size 10 l w1 h (Or.inl rfl) hl)
  have HL := Lib.hid hl
  obtain ⟨S, hS⟩ : ∃ S, S = txt l := ⟨_, rfl⟩
  have HSE := Lib.hid hS
  rw [← hS] at HS ⊢
  obtain ⟨R, hR⟩ : ∃ R, R = signA l := ⟨_, rfl⟩
  have HR := Lib.hid hR
  rw [← hR]
  clear hS hR hl
  go_enter Tryz.func33, Tryz.ntmps33
  go_wp2_with fail
  have hb : (w.alloc (.cells #[.bool false, .slice none 0 0] 69)).heap[w.heap.size]? = some (.cells #[.bool false, .slice none 0 0] 69 (0, 0)) := blk_last w _ rfl
  refine (HS.out _ ⟨false, none, 0, 0, hb⟩).mono ?_
  rintro e w2 (⟨ha, hne, rfl, hB, hK⟩ | ⟨hf, rfl, hK⟩)
  · obtain ⟨ng, hng⟩ : ∃ x, x = (cutS l).1 := ⟨_, rfl⟩
    obtain ⟨n, hn⟩ : ∃ x, x = valB 10 (cutS l).2 := ⟨_, rfl⟩
    have hnt : n < bigTop := by
      rw [hn]
      have h1 : (cutS l).2.length ≤ 6000 := Nat.le_trans (cutS_len l) HL.out
      have := valB_top (B := 10) (l := (cutS l).2) (k := (cutS l).2.length) (by omega) (Nat.le_refl _) h1 (by
        rw [List.take_length]
        intro c hc
        unfold allB at ha
        exact of_decide_eq_true (List.all_eq_true.mp ha c hc))
      rwa [List.take_length] at this
    have hok : signOk l = (decide (l = strZ ng n) && decide (n < 1000000000000000000)) := by
      unfold signOk
      rw [ha, ← hng, ← hn, decide_eq_true hne, Bool.true_and, Bool.true_and]
    have hsv : signV l = if ng = true then -(n : Int) else (n : Int) := by
      unfold signV
      rw [← hng, ← hn]
    rw [← hng, ← hn] at hB
    have HOK := Lib.hid hok
    have HSV := Lib.hid hsv
    have HW := Lib.hid (((Below.refl w.heap.size w).alloc (Nat.le_refl _) (.cells #[.bool false, .slice none 0 0] 69)).trans (hK.toBelow (fun i h => by rw [h]; exact Nat.le_refl _) (by simp)))
    have HB := Lib.hid hB
    have HNT := Lib.hid hnt
    have HT := Lib.hid (bigString_s w.heap.size n ng w2 hB hnt)
    obtain ⟨T, hT⟩ : ∃ T, T = txt (strZ ng n) := ⟨_, rfl⟩
    have HTE := Lib.hid hT
    rw [← hT] at HT
    clear ha hne hK hng hn hnt hok hsv hB hb HS hT
    go_wp2_with fail
    refine HT.out.mono ?_
    rintro e w3 ⟨rfl, hb3⟩
    have hz3 := HW.out.size
    have HB3 := Lib.hid (HB.out.below hb3)
    have HW3 := Lib.hid (HW.out.trans (hb3.mono hz3))
    clear HB HW HT hb3 hz3
    go_wp2_with fail
    · have hTS : T.toList = S.toList := by assumption
      have hTS2 : strZ ng n = l := by rw [HTE.out, HSE.out, txt_toList, txt_toList] at hTS; exact hTS
      have HOK2 : Hid (signOk l = decide (n < 1000000000000000000)) := Lib.hid (by rw [HOK.out, decide_eq_true hTS2.symm, Bool.true_and])
      have HSS := Lib.hid hTS
      clear HOK hTS hTS2
      refine (newInt_any 1000000000000000000 w3 (by decide)).mono ?_
      rintro e w4 ⟨rfl, hq, hb4⟩
      have hz4 := HW3.out.size
      have HP4 := BigM.of_s (HB3.out.below hb4)
      have HC := Lib.hid (cmpAbs_any w.heap.size w3.heap.size n 1000000000000000000 _ false w4 HP4 hq HNT.out)
      have HP := Lib.hid HP4
      have HW4 := Lib.hid (HW3.out.trans (hb4.mono hz4))
      clear HB3 HW3 HP4 hq hb4 hz4
      go_wp2_with fail
      refine HC.out.mono ?_
      rintro e w5 ⟨rfl, hb5⟩
      have HW5 := Lib.hid (HW4.out.trans (hb5.mono HW4.out.size))
      have HP5 := HP.out.below hb5
      clear HP HW4 hb5 HC
      by_cases hlt : n < 1000000000000000000
      · rw [cmpN_less hlt]
        have hyes : signOk l = true := by rw [HOK2.out]; exact decide_eq_true hlt
        have hr : R = .tuple #[.int .i64 (if (ng && decide (0 < n)) = true then -(n : Int) else (n : Int)), .bool true] := by rw [HR.out, signA_yes hyes, HSV.out, signV_flag]
        have HI := Lib.hid (int64_m w.heap.size n _ w5 HP5 (by omega))
        obtain ⟨V, hV⟩ : ∃ V, V = (if (ng && decide (0 < n)) = true then -(n : Int) else (n : Int)) := ⟨_, rfl⟩
        rw [← hV] at HI hr
        subst hr
        clear HP5 hV hlt hyes HOK2 HSV HR HNT
        go_wp2_with fail
        refine HI.out.mono ?_
        rintro e w6 ⟨rfl, rfl⟩
        go_wp2_with fail
        go_ret2
        exact ⟨rfl, HW5.out⟩
      · have hno : signOk l = false := by rw [HOK2.out]; exact decide_eq_false hlt
        have hr : R = .tuple #[.int .i64 0, .bool false] := by rw [HR.out, signA_no hno]
        subst hr
        by_cases heq : n = 1000000000000000000
        · have hcm : cmpN n 1000000000000000000 = 0 := by rw [heq]; exact cmpN_same _
          rw [hcm]
          clear HP5 hlt hno HOK2 HSV HR HNT hcm
          go_wp2_with fail
          go_ret2
          exact ⟨rfl, HW5.out⟩
        · rw [cmpN_more (by omega : 1000000000000000000 < n)]
          clear HP5 hlt hno HOK2 HSV HR HNT
          go_wp2_with fail
          go_ret2
          exact ⟨rfl, HW5.out⟩
    · have hTS : ¬ T.toList = S.toList := by assumption
      have hTS2 : ¬ l = strZ ng n := fun h => by rw [HTE.out, HSE.out, txt_toList, txt_toList, h] at hTS; exact hTS rfl
      have hno : signOk l = false := by rw [HOK.out, decide_eq_false hTS2]; rfl
      have hr : R = .tuple #[.int .i64 0, .bool false] := by rw [HR.out, signA_no hno]
      subst hr
      go_ret2
      exact ⟨rfl, HW3.out⟩
  · have hno : signOk l = false := by
      unfold signOk
      rcases hf with hf | hf
      · rw [hf]; rfl
      · rw [hf]; simp
    have hr : R = .tuple #[.int .i64 0, .bool false] := by rw [HR.out, signA_no hno]
    have HW := Lib.hid (((Below.refl w.heap.size w).alloc (Nat.le_refl _) (.cells #[.bool false, .slice none 0 0] 69)).trans (hK.mono (by simp)))
    subst hr
    clear hK hb hf hno
    go_wp2_with fail
    go_ret2
    exact ⟨rfl, HW.out⟩
end Go.Proofs.YtdmamecfmfhlmaaGreatDoor
namespace Go.Proofs.YtdmamecfmfhlmaaGreatDoor
set_option maxRecDepth 100000
open Go.RowKit

theorem wrap_nat_of (Z : BitVec 64) : IntKind.i64.wrap (Z.toNat : Int) = Z.toInt := by
  rw [IntKind.wrap_i64, BitVec.toInt_eq_toNat_cond]
  have := Z.isLt
  split <;> omega
theorem or_bit {a d : Nat} (h : a < 2 ^ d) (hd : d ≤ 8) : bits .or .i64 (a : Int) (2 ^ d) = (a : Int) + 2 ^ d := by
  have hp : (2 : Nat) ^ d ≤ 256 := by
    have : (2 : Nat) ^ d ≤ 2 ^ 8 := Nat.pow_le_pow_right (by omega) hd
    simpa using this
  show IntKind.i64.wrap ((BitVec.ofInt 64 (a : Int) ||| BitVec.ofInt 64 (2 ^ d)).toNat : Int) = _
  have e1 : BitVec.ofInt 64 (a : Int) = BitVec.ofNat 64 a := by apply BitVec.eq_of_toNat_eq; simp
  have e2 : BitVec.ofInt 64 ((2 : Int) ^ d) = BitVec.ofNat 64 (2 ^ d) := by
    rw [show ((2 : Int) ^ d) = ((2 ^ d : Nat) : Int) by simp]
    exact BitVec.ofInt_natCast 64 _
  rw [e1, e2, BitVec.toNat_or, BitVec.toNat_ofNat, BitVec.toNat_ofNat, Nat.mod_eq_of_lt (by omega), Nat.mod_eq_of_lt (by omega)]
  have e3 : a ||| 2 ^ d = 2 ^ d + a := by
    have := Nat.two_pow_add_eq_or_of_lt h 1
    rw [Nat.mul_one] at this
    rw [this, Nat.or_comm]
  rw [e3, IntKind.wrap_i64]
  have e4 : ((2 : Int) ^ d) = ((2 ^ d : Nat) : Int) := by simp
  rw [e4]
  omega

/-- The end of a reading: the first mask, and what the second one left. -/
def readE (m0 : Int) (M : Int × List UInt8) : (Int × Int) × Int :=
  if M.2 = [] then (if goodF m0 M.1 then ((m0, M.1), 0) else ((0, 0), 4)) else ((0, 0), 2)
theorem readT_slash (B : Int) {c d : UInt8} (r : List UInt8) (hc : c.toNat = 47) (hd : d.toNat = 83) : readT B (c :: d :: r) = readE B (maskF r (-1) 0) := by
  rw [readT, if_pos ⟨hc, hd⟩]; rfl
theorem readT_no (B : Int) {c : UInt8} (r : List UInt8) (hc : ¬ c.toNat = 47) : readT B (c :: r) = ((0, 0), 2) := by
  cases r with
  | nil => rfl
  | cons d r => rw [readT, if_neg (fun h => hc h.1)]
theorem readT_no2 (B : Int) {c d : UInt8} (r : List UInt8) (hd : ¬ d.toNat = 83) : readT B (c :: d :: r) = ((0, 0), 2) := by
  rw [readT, if_neg (fun h => hd h.2)]
theorem maskF_stop {c : UInt8} (r : List UInt8) (la m : Int) (h : ¬ (48 ≤ c.toNat ∧ c.toNat ≤ 56 ∧ la < (c.toNat : Int) - 48)) : maskF (c :: r) la m = (m, c :: r) := by
  rw [maskF, if_neg h]
theorem maskF_go {c : UInt8} (r : List UInt8) (la m : Int) (h : 48 ≤ c.toNat ∧ c.toNat ≤ 56 ∧ la < (c.toNat : Int) - 48) : maskF (c :: r) la m = maskF r ((c.toNat : Int) - 48) (bits .or .i64 m (2 ^ (c.toNat - 48))) := by
  rw [maskF, if_pos h]
theorem readE_no (m0 m1 : Int) (c : UInt8) (r : List UInt8) : readE m0 (m1, c :: r) = ((0, 0), 2) := by simp [readE]
theorem readE_end {m0 m1 : Int} (h0 : 0 ≤ m0) (h1 : m0 < 512) (h2 : 0 ≤ m1) (h3 : m1 < 512) : readE m0 (m1, []) = if m0 % 2 = 0 then ((m0, m1), 0) else ((0, 0), 4) := by
  simp [readE, good_in h0 h1 h2 h3]
end Go.Proofs.YtdmamecfmfhlmaaGreatDoor
