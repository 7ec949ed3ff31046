/-
  Whole numbers: SetString of any text, in base 10 or 16.
-/
import Derived.Test.YtjbkfkgdpbjliaaDoorBigText
import Derived.Test.YtjbkfkgdpbjliaaDoorBigNeg
import Derived.Deep.CutRange
namespace Go.Proofs.YtjbkfkgdpbjliaaDoor
set_option maxRecDepth 100000
open Go.RowKit

def dig36 (c : Nat) : Nat := if 48 ≤ c ∧ c ≤ 57 then c - 48 else if 97 ≤ c ∧ c ≤ 122 then c - 97 + 10 else if 65 ≤ c ∧ c ≤ 90 then c - 65 + 10 else 99
def valB (B : Nat) (l : List UInt8) : Nat := l.foldl (fun v c => v * B + dig36 c.toNat) 0
def allB (B : Nat) (l : List UInt8) : Bool := l.all fun c => decide (dig36 c.toNat < B)
theorem valB_take {B : Nat} {l : List UInt8} {k : Nat} {c : UInt8} (h : l[k]? = some c) : valB B (l.take (k + 1)) = valB B (l.take k) * B + dig36 c.toNat := by
  rw [List.take_add_one, h]
  show valB B (l.take k ++ [c]) = _
  rw [valB, List.foldl_append]
  rfl
theorem valB_lt {B : Nat} {l : List UInt8} : ∀ k, k ≤ l.length → (∀ c ∈ l.take k, dig36 c.toNat < B) → valB B (l.take k) < B ^ k
  | 0, _, _ => by simp [valB]
  | k + 1, h, hd => by
    have hc : l[k]? = some l[k] := List.getElem?_eq_getElem (by omega)
    have htk : l.take (k + 1) = l.take k ++ [l[k]] := by rw [List.take_add_one, hc]; rfl
    rw [htk] at hd
    have ih := valB_lt k (by omega) (fun c hc => hd c (List.mem_append_left _ hc))
    have hdk := hd l[k] (List.mem_append_right _ (List.mem_singleton_self _))
    rw [valB_take hc, Nat.pow_succ]
    have h1 : valB B (l.take k) * B + B ≤ B ^ k * B := by rw [← Nat.succ_mul]; exact Nat.mul_le_mul_right _ ih
    omega
theorem valB_top {B : Nat} {l : List UInt8} {k : Nat} (hB : B ≤ 16) (hk : k ≤ l.length) (hl : l.length ≤ 6000) (hd : ∀ c ∈ l.take k, dig36 c.toNat < B) : valB B (l.take k) < bigTop := by
  refine Nat.lt_of_lt_of_le (valB_lt k hk hd) (Nat.le_trans (Nat.pow_le_pow_left hB k) ?_)
  rw [bigTop_two, show (16 : Nat) = 2 ^ 4 from rfl, ← Nat.pow_mul]
  refine Nat.pow_le_pow_right (by omega) ?_
  rw [topW_eq]; omega
/-- The sign of a text, and what follows. -/
def cutS : List UInt8 → Bool × List UInt8
  | [] => (false, [])
  | c :: r => if c.toNat = 45 then (true, r) else if c.toNat = 43 then (false, r) else (false, c :: r)
theorem cutS_len : ∀ l, (cutS l).2.length ≤ l.length
  | [] => Nat.le_refl _
  | c :: r => by
    show (if c.toNat = 45 then (true, r) else if c.toNat = 43 then (false, r) else (false, c :: r)).2.length ≤ _
    split
    · simp
    · split
      · simp
      · simp
theorem cutS_45 {c : UInt8} {r : List UInt8} (h : c.toNat = 45) : cutS (c :: r) = (true, r) := by
  show (if c.toNat = 45 then (true, r) else if c.toNat = 43 then (false, r) else (false, c :: r)) = _
  rw [if_pos h]
theorem cutS_43 {c : UInt8} {r : List UInt8} (h : c.toNat = 43) : cutS (c :: r) = (false, r) := by
  show (if c.toNat = 45 then (true, r) else if c.toNat = 43 then (false, r) else (false, c :: r)) = _
  rw [if_neg (by omega), if_pos h]
theorem cutS_no {c : UInt8} {r : List UInt8} (h : c.toNat ≠ 45) (h2 : c.toNat ≠ 43) : cutS (c :: r) = (false, c :: r) := by
  show (if c.toNat = 45 then (true, r) else if c.toNat = 43 then (false, r) else (false, c :: r)) = _
  rw [if_neg h, if_neg h2]
def sgB : List UInt8 → Bool
  | [] => false
  | c :: _ => decide (c.toNat = 45 ∨ c.toNat = 43)
/-- Block p is a number with its sign. -/
def BigS (w : World) (p : Nat) (neg : Bool) (n : Nat) : Prop := if neg = true ∧ 0 < n then BigNg w p n else BigAt w p n
set_option maxHeartbeats 1000000 in
theorem give_nil (p : Nat) (v : Value) (w : World) (hp : BigBlk w p) (hv : AbsOf w v 0) :
    Calls Tryd.prog 31 #[.pointer (some ⟨p, 0, none⟩), .bool true, v] w fun e w' => e = .returned (.pointer (some ⟨p, 0, none⟩)) ∧ BigAt w' p 0 ∧ Keeps (fun i => i = p) w w' := by
  have HP := Lib.hid hp
  have HV := Lib.hid hv
  obtain ⟨f, sa, sn, sc, hb⟩ := hp
  obtain ⟨a, c, rfl, hs, _⟩ := hv
  rw [wordsN_zero, show ([] : List Nat).length = 0 from rfl] at HV ⊢
  have hlt := lt_of_block hb
  have f0 : w.frozen? ⟨p, 0, none⟩ = false := Joins.unfrozen_of_block hb 0
  have f1 : w.frozen? ⟨p, 1, none⟩ = false := Joins.unfrozen_of_block hb 1
  have c0 : w.cell? ⟨p, 0, none⟩ = some (.bool f) := Joins.cell_of_block hb 0
  have c1 : w.cell? ⟨p, 1, none⟩ = some (.slice sa sn sc) := Joins.cell_of_block hb 1
  have hb2 := Joins.block_setCell (Joins.block_setCell (i := 1) hb (.slice a 0 c)) (i := 0) (.bool false)
  have hk2 : Keeps (fun i => i = p) w ((w.setCell ⟨p, 1, none⟩ (.slice a 0 c)).setCell ⟨p, 0, none⟩ (.bool false)) := Keeps.setCell (Keeps.setCell (Keeps.refl (fun i => i = p) w) (p := ⟨p, 1, none⟩) (fun _ => rfl) _) (p := ⟨p, 0, none⟩) (fun _ => rfl) _
  have HB2 := Lib.hid hb2
  have HK2 := Lib.hid hk2
  clear hs hb hb2 hk2
  go_enter Tryd.func31, Tryd.ntmps31
  go_wp2_with fail
  go_ret
  refine ⟨rfl, ⟨.slice a 0 c, ?_, ?_⟩, HK2.out⟩
  · have := HB2.out
    simpa using this
  · exact HV.out.keep HP.out HK2.out
/-- The sign given, whichever. -/
theorem give_s (p n : Nat) (ng : Bool) (v : Value) (w : World) (hp : BigBlk w p) (hv : AbsOf w v n) :
    Calls Tryd.prog 31 #[.pointer (some ⟨p, 0, none⟩), .bool ng, v] w fun e w' => e = .returned (.pointer (some ⟨p, 0, none⟩)) ∧ BigS w' p ng n ∧ Keeps (fun i => i = p) w w' := by
  cases ng with
  | false =>
    refine (give_any p n v w hp hv).mono ?_
    rintro e w' ⟨h1, h2, h3⟩
    refine ⟨h1, ?_, h3⟩
    unfold BigS
    rw [if_neg (by simp)]; exact h2
  | true =>
    rcases Nat.eq_zero_or_pos n with rfl | h0
    · refine (give_nil p v w hp hv).mono ?_
      rintro e w' ⟨h1, h2, h3⟩
      refine ⟨h1, ?_, h3⟩
      unfold BigS
      rw [if_neg (by simp)]; exact h2
    · refine (give_neg p n v w hp hv h0).mono ?_
      rintro e w' ⟨h1, h2, h3⟩
      refine ⟨h1, ?_, h3⟩
      unfold BigS
      rw [if_pos ⟨rfl, h0⟩]; exact h2
/-- What SetString comes to. -/
def SetS (p B : Nat) (l : List UInt8) (w : World) (e : Ending) (w' : World) : Prop :=
  (allB B (cutS l).2 = true ∧ (cutS l).2 ≠ [] ∧ e = .returned (.tuple #[.pointer (some ⟨p, 0, none⟩), .bool true]) ∧ BigS w' p (cutS l).1 (valB B (cutS l).2) ∧ Keeps (fun i => i = p) w w') ∨
  ((allB B (cutS l).2 = false ∨ (cutS l).2 = []) ∧ e = .returned (.tuple #[.pointer none, .bool false]) ∧ Below w.heap.size w w')
set_option maxHeartbeats 8000000 in
set_option maxRecDepth 100000 in
theorem setString_gen (p B : Nat) (l : List UInt8) (w : World) (hp : BigBlk w p) (hB : B = 10 ∨ B = 16) (hl : l.length ≤ 6000) :
    Calls Tryd.prog 17 #[.pointer (some ⟨p, 0, none⟩), .string (txt l), .int .i64 B] w (SetS p B l w) := by
  have HP := Lib.hid hp
  have HLL := Lib.hid hl
  obtain ⟨ng, hng⟩ : ∃ x, x = (cutS l).1 := ⟨_, rfl⟩
  obtain ⟨D, hD⟩ : ∃ x, x = (cutS l).2 := ⟨_, rfl⟩
  have HNG := Lib.hid hng
  have HDD := Lib.hid hD
  have hDl : D.length ≤ 6000 := by rw [hD]; exact Nat.le_trans (cutS_len l) hl
  have hb0 : ((B : Int) == 0) = false := by simp; omega
  have hb1 : (B == 0) = false := by simp; omega
  have hb2 : decide ((B : Int) < 2) = false := decide_eq_false (by omega)
  have hb3 : decide ((B : Int) > 36) = false := decide_eq_false (by omega)
  have hb4 : decide (36 < (B : Int)) = false := decide_eq_false (by omega)
  have hb5 : decide (B < 2) = false := decide_eq_false (by omega)
  have hb6 : decide (36 < B) = false := decide_eq_false (by omega)
  have hBn : 2 ≤ B ∧ B ≤ 16 := by omega
  have HB := Lib.hid hBn
  obtain ⟨S0, hS0⟩ : ∃ S, S = txt l := ⟨_, rfl⟩
  obtain ⟨S, hS⟩ : ∃ S, S = txt D := ⟨_, rfl⟩
  have HS0 := Lib.hid hS0
  have HS := Lib.hid hS
  rw [← hS0]
  clear hp hl hng hD hB hS0 hS
  go_enter Tryd.func17, Tryd.ntmps17
  go_upto_region 2 with fail
  go_cut [25] from 13 to 24 (fun s25 wx => s25 = .bool (sgB l) ∧ wx = w)
  case first =>
    cases l with
    | nil =>
      have hz : S0.size = 0 := by rw [HS0.out]; rfl
      go_wp2_with fail
      go_meet
      exact ⟨rfl, rfl⟩
    | cons c r =>
      obtain ⟨S1, hS1, s1, s2, s3, s4, s5, s6⟩ := txt_cons c r
      have hSS : S1 = S0 := hS1.trans HS0.out.symm
      subst hSS
      obtain ⟨m0, hm0⟩ : ∃ m0, m0 = c.toNat := ⟨_, rfl⟩
      have hmb : m0 < 256 := by rw [hm0]; exact c.toNat_lt
      rw [← hm0] at s6
      have hlen : r.length + 1 ≤ 6000 := by have := HLL.out; simpa using this
      by_cases h45 : m0 = 45
      · skip
        have e1 : ((m0 : Int) == 45) = true := by simp; omega
        have e1' : (m0 == 45) = true := by simp; omega
        have HR := Lib.hid (show sgB (c :: r) = true from decide_eq_true (by omega))
        clear hm0 hS1 h45
        go_wp2_with fail
        go_meet
        exact ⟨by rw [HR.out], rfl⟩
      · by_cases h43 : m0 = 43
        · skip
          have e1 : ((m0 : Int) == 45) = false := by simp; omega
          have e1' : (m0 == 45) = false := by simp; omega
          have e2 : ((m0 : Int) == 43) = true := by simp; omega
          have e2' : (m0 == 43) = true := by simp; omega
          have HR := Lib.hid (show sgB (c :: r) = true from decide_eq_true (by omega))
          clear hm0 hS1 h45 h43
          go_wp2_with fail
          go_meet
          exact ⟨by rw [HR.out], rfl⟩
        · skip
          have e1 : ((m0 : Int) == 45) = false := by simp; omega
          have e1' : (m0 == 45) = false := by simp; omega
          have e2 : ((m0 : Int) == 43) = false := by simp; omega
          have e2' : (m0 == 43) = false := by simp; omega
          have HR := Lib.hid (show sgB (c :: r) = false from decide_eq_false (by omega))
          clear hm0 hS1 h45 h43
          go_wp2_with fail
          go_meet
          exact ⟨by rw [HR.out], rfl⟩
  case rest =>
  obtain ⟨rfl, rfl⟩ := hcut
  go_upto_if 25 with fail
  go_cut [1, 8] from 25 to 30 (fun s1 s8 wx => s1 = .string S ∧ s8 = .bool ng ∧ wx = wc)
  case first =>
    cases l with
    | nil =>
      have HX := Lib.hid (show S = S0 by rw [HS.out, HS0.out, HDD.out]; rfl)
      have HY := Lib.hid (show ng = false by rw [HNG.out]; rfl)
      rw [show sgB [] = false from rfl]
      go_wp2_with fail
      go_meet
      exact ⟨by rw [HX.out], by rw [HY.out], rfl⟩
    | cons c r =>
      obtain ⟨S1, hS1, s1, s2, s3, s4, s5, s6⟩ := txt_cons c r
      have hSS : S1 = S0 := hS1.trans HS0.out.symm
      subst hSS
      obtain ⟨m0, hm0⟩ : ∃ m0, m0 = c.toNat := ⟨_, rfl⟩
      have hmb : m0 < 256 := by rw [hm0]; exact c.toNat_lt
      rw [← hm0] at s6
      have hlen : r.length + 1 ≤ 6000 := by have := HLL.out; simpa using this
      by_cases h45 : m0 = 45
      · skip
        have hc := cutS_45 (c := c) (r := r) (by omega)
        have hd := HDD.out
        have hg := HNG.out
        rw [hc] at hd hg
        simp only at hd hg
        have HX := Lib.hid (show S = txt r by rw [HS.out, hd])
        have HY := Lib.hid hg
        rw [show sgB (c :: r) = true from decide_eq_true (by omega)]
        have e1 : ((m0 : Int) == 45) = true := by simp; omega
        have e1' : (m0 == 45) = true := by simp; omega
        clear hm0 hS1 h45 hc hd hg
        go_wp2_with fail
        go_meet
        exact ⟨by rw [HX.out], by rw [HY.out], rfl⟩
      · by_cases h43 : m0 = 43
        · skip
          have hc := cutS_43 (c := c) (r := r) (by omega)
          have hd := HDD.out
          have hg := HNG.out
          rw [hc] at hd hg
          simp only at hd hg
          have HX := Lib.hid (show S = txt r by rw [HS.out, hd])
          have HY := Lib.hid hg
          rw [show sgB (c :: r) = true from decide_eq_true (by omega)]
          have e1 : ((m0 : Int) == 45) = false := by simp; omega
          have e1' : (m0 == 45) = false := by simp; omega
          have e2 : ((m0 : Int) == 43) = true := by simp; omega
          have e2' : (m0 == 43) = true := by simp; omega
          clear hm0 hS1 h45 h43 hc hd hg
          go_wp2_with fail
          go_meet
          exact ⟨by rw [HX.out], by rw [HY.out], rfl⟩
        · skip
          have hc := cutS_no (c := c) (r := r) (by omega) (by omega)
          have hd := HDD.out
          have hg := HNG.out
          rw [hc] at hd hg
          simp only at hd hg
          have HX := Lib.hid (show S = S1 by rw [HS.out, hd, hS1])
          have HY := Lib.hid hg
          rw [show sgB (c :: r) = false from decide_eq_false (by omega)]
          clear hm0 hS1 h45 h43 hc hd hg
          go_wp2_with fail
          go_meet
          exact ⟨by rw [HX.out], by rw [HY.out], rfl⟩
  case rest =>
  obtain ⟨rfl, rfl, rfl⟩ := hcut
  obtain ⟨n, hn⟩ : ∃ n, n = D.length := ⟨_, rfl⟩
  have hsz : S.size = n := by rw [HS.out, txt_size, hn]
  have HN := Lib.hid hn
  rw [← hn] at hDl
  by_cases h0 : n = 0
  · have hz : ((n : Int) == 0) = true := by simp; omega
    have hz' : (n == 0) = true := by simp; omega
    have HD0 := Lib.hid (show D = [] from List.eq_nil_of_length_eq_zero (by rw [← HN.out]; exact h0))
    clear hn h0
    go_wp2_with fail
    go_ret2
    exact .inr ⟨.inr (by rw [← HDD.out]; exact HD0.out), rfl, Below.refl _ _⟩
  · have hz : ((n : Int) == 0) = false := by simp; omega
    have hz' : (n == 0) = false := by simp; omega
    have HD0 := Lib.hid (show D ≠ [] from fun e => h0 (by rw [HN.out, e]; rfl))
    clear hn h0
    go_wp2_with fail
    go_loopw [9, 10, 11, 12] (fun r i _ _ wr => ∃ k : Nat, i = .int .i64 k ∧ k ≤ n ∧ AbsOf wr r (valB B (D.take k)) ∧ Aside (∀ c ∈ D.take k, dig36 c.toNat < B) ∧ Below wc.heap.size wc wr) (fun _ i _ _ _ => n - (intOf i).toNat)
    case atStart => exact ⟨0, rfl, Nat.zero_le _, AbsOf.zero _, by intro c hc; simp at hc, Below.refl _ _⟩
    case round =>
      obtain ⟨k, rfl, hk, hA, HDG, hBw⟩ := hrel
      have hdn := valB_top HB.out.2 (by rw [← HN.out]; exact hk) (by rw [← HN.out]; exact hDl) HDG.out
      obtain ⟨v, hv⟩ : ∃ v, v = valB B (D.take k) := ⟨_, rfl⟩
      rw [← hv] at hA hdn
      by_cases hlt : k < n
      · obtain ⟨c, hc⟩ : ∃ c, D[k]? = some c := ⟨D[k]'(by have := HN.out; omega), List.getElem?_eq_getElem (by have := HN.out; omega)⟩
        have hks : k < S.size := by omega
        have hg : S[k].toNat = c.toNat := by have h := HS.out; subst h; exact txt_get hc hks
        have htk : D.take (k + 1) = D.take k ++ [c] := by rw [List.take_add_one, hc]; rfl
        have hnx := valB_take (B := B) hc
        rw [← hv] at hnx
        have hmem := List.mem_of_getElem? hc
        obtain ⟨y, hy⟩ : ∃ y, y = c.toNat := ⟨_, rfl⟩
        have hyb : y < 256 := by rw [hy]; exact c.toNat_lt
        rw [← hy] at hg hnx
        obtain ⟨d, hdd⟩ : ∃ d, d = dig36 y := ⟨_, rfl⟩
        rw [← hdd] at hnx
        have HBAD := Lib.hid (show B ≤ d → allB B D = false from fun e => by
          cases h : allB B D with
          | false => rfl
          | true =>
            have := List.all_eq_true.1 h c hmem
            rw [decide_eq_true_eq, ← hy, ← hdd] at this
            omega)
        have hgood : d < B → (∀ c ∈ D.take (k + 1), dig36 c.toNat < B) := fun e c' hc' => by
          rw [htk] at hc'
          rcases List.mem_append.1 hc' with h | h
          · exact HDG.out c' h
          · simp only [List.mem_singleton] at h
            rw [h, ← hy, ← hdd]; exact e
        have hnt := fun e : d < B => valB_top (k := k + 1) HB.out.2 (by rw [← HN.out]; omega) (by rw [← HN.out]; exact hDl) (hgood e)
        rw [hnx] at hnt
        have HNT := Lib.hid hnt
        have HGD := Lib.hid hgood
        have HNX := Lib.hid hnx
        have HA := Lib.hid hA
        clear hnx hA hc hy hv htk hmem hgood hnt
        have hdk : decide (k < n) = true := decide_eq_true hlt
        by_cases hc0 : y < 48
        · skip
          have t0a : decide ((y : Int) ≥ 48) = false := decide_eq_false (by omega)
          have t0b : decide ((48 : Int) ≤ (y : Int)) = false := decide_eq_false (by omega)
          have t0c : decide (48 ≤ y) = false := decide_eq_false (by omega)
          have t1a : decide ((y : Int) ≤ 57) = true := decide_eq_true (by omega)
          have t1b : decide (y ≤ 57) = true := decide_eq_true (by omega)
          have t2a : decide ((y : Int) ≥ 97) = false := decide_eq_false (by omega)
          have t2b : decide ((97 : Int) ≤ (y : Int)) = false := decide_eq_false (by omega)
          have t2c : decide (97 ≤ y) = false := decide_eq_false (by omega)
          have t3a : decide ((y : Int) ≤ 122) = true := decide_eq_true (by omega)
          have t3b : decide (y ≤ 122) = true := decide_eq_true (by omega)
          have t4a : decide ((y : Int) ≥ 65) = false := decide_eq_false (by omega)
          have t4b : decide ((65 : Int) ≤ (y : Int)) = false := decide_eq_false (by omega)
          have t4c : decide (65 ≤ y) = false := decide_eq_false (by omega)
          have t5a : decide ((y : Int) ≤ 90) = true := decide_eq_true (by omega)
          have t5b : decide (y ≤ 90) = true := decide_eq_true (by omega)
          have hdv : d = 99 := by rw [hdd, dig36, if_neg (by omega), if_neg (by omega), if_neg (by omega)]
          clear hdd
          have hB99 : B ≤ 99 := by have := HB.out; omega
          have q1 : decide ((99 : Int) ≥ (B : Int)) = true := decide_eq_true (by omega)
          have q2 : decide ((B : Int) ≤ (99 : Int)) = true := decide_eq_true (by omega)
          have q3 : decide (B ≤ 99) = true := decide_eq_true (by omega)
          have HBB := Lib.hid (HBAD.out (by rw [hdv]; exact hB99))
          clear hdv
          go_wp2_with fail
          go_ret2
          exact .inr ⟨.inl (by rw [← HDD.out]; exact HBB.out), rfl, hBw⟩
        · skip
          by_cases hc1 : y < 58
          · skip
            have t0a : decide ((y : Int) ≥ 48) = true := decide_eq_true (by omega)
            have t0b : decide ((48 : Int) ≤ (y : Int)) = true := decide_eq_true (by omega)
            have t0c : decide (48 ≤ y) = true := decide_eq_true (by omega)
            have t1a : decide ((y : Int) ≤ 57) = true := decide_eq_true (by omega)
            have t1b : decide (y ≤ 57) = true := decide_eq_true (by omega)
            have t2a : decide ((y : Int) ≥ 97) = false := decide_eq_false (by omega)
            have t2b : decide ((97 : Int) ≤ (y : Int)) = false := decide_eq_false (by omega)
            have t2c : decide (97 ≤ y) = false := decide_eq_false (by omega)
            have t3a : decide ((y : Int) ≤ 122) = true := decide_eq_true (by omega)
            have t3b : decide (y ≤ 122) = true := decide_eq_true (by omega)
            have t4a : decide ((y : Int) ≥ 65) = false := decide_eq_false (by omega)
            have t4b : decide ((65 : Int) ≤ (y : Int)) = false := decide_eq_false (by omega)
            have t4c : decide (65 ≤ y) = false := decide_eq_false (by omega)
            have t5a : decide ((y : Int) ≤ 90) = true := decide_eq_true (by omega)
            have t5b : decide (y ≤ 90) = true := decide_eq_true (by omega)
            have hdv : d = y - 48 := by rw [hdd, dig36, if_pos (by omega)]
            have hdI : (y : Int) - 48 = (d : Int) := by omega
            have hdb : d < 100 := by omega
            clear hdd hdv
            by_cases hdB : d < B
            · have q1 : decide ((d : Int) ≥ (B : Int)) = false := decide_eq_false (by omega)
              have q2 : decide ((B : Int) ≤ (d : Int)) = false := decide_eq_false (by omega)
              have q3 : decide (B ≤ d) = false := decide_eq_false (by omega)
              have HN2 := Lib.hid (HNT.out hdB)
              have HG2 := Lib.hid (HGD.out hdB)
              have hd16 : d < 16 := by have := HB.out; omega
              have hB16 : 2 ≤ B ∧ B ≤ 16 := HB.out
              have hvB : v * B < bigTop := by have := HN2.out; omega
              have HVB := Lib.hid hvB
              clear hdB hvB
              go_wp2_with fail
              refine (words_any B _ (by omega)).mono ?_
              rintro e w1 ⟨⟨v1, rfl, hv1⟩, hb1⟩
              have HM := Lib.hid (mul_any v B _ v1 w1 (by omega) (by omega) HVB.out (HA.out.below hb1) hv1)
              have HB1 := Lib.hid (hBw.trans (hb1.mono hBw.size))
              clear hv1 hb1
              go_wp2_with fail
              refine HM.out.mono ?_
              rintro e w2 ⟨⟨v2, rfl, hv2⟩, hb2⟩
              have HV2 := Lib.hid hv2
              have HB2 := Lib.hid (HB1.out.trans (hb2.mono HB1.out.size))
              clear hv2 hb2
              go_wp2_with fail
              refine (words_any d _ (by omega)).mono ?_
              rintro e w3 ⟨⟨v3, rfl, hv3⟩, hb3⟩
              have HAD := Lib.hid (add_any (v * B) d v2 v3 w3 HN2.out (HV2.out.below hb3) hv3)
              have HB3 := Lib.hid (HB2.out.trans (hb3.mono HB2.out.size))
              clear hv3 hb3
              go_wp2_with fail
              refine HAD.out.mono ?_
              rintro e w4 ⟨⟨v4, rfl, hv4⟩, hb4⟩
              have HV4 := Lib.hid hv4
              have HB4 := Lib.hid (HB3.out.trans (hb4.mono HB3.out.size))
              clear hv4 hb4
              go_wp2_with fail
              exact ⟨⟨k + 1, by go_num, by omega, by rw [HNX.out]; exact HV4.out, HG2.out, HB4.out⟩, by simp [intOf]; omega⟩
            · have q1 : decide ((d : Int) ≥ (B : Int)) = true := decide_eq_true (by omega)
              have q2 : decide ((B : Int) ≤ (d : Int)) = true := decide_eq_true (by omega)
              have q3 : decide (B ≤ d) = true := decide_eq_true (by omega)
              have HBB := Lib.hid (HBAD.out (by omega))
              clear hdB
              go_wp2_with fail
              go_ret2
              exact .inr ⟨.inl (by rw [← HDD.out]; exact HBB.out), rfl, hBw⟩
          · skip
            by_cases hc2 : y < 65
            · skip
              have t0a : decide ((y : Int) ≥ 48) = true := decide_eq_true (by omega)
              have t0b : decide ((48 : Int) ≤ (y : Int)) = true := decide_eq_true (by omega)
              have t0c : decide (48 ≤ y) = true := decide_eq_true (by omega)
              have t1a : decide ((y : Int) ≤ 57) = false := decide_eq_false (by omega)
              have t1b : decide (y ≤ 57) = false := decide_eq_false (by omega)
              have t2a : decide ((y : Int) ≥ 97) = false := decide_eq_false (by omega)
              have t2b : decide ((97 : Int) ≤ (y : Int)) = false := decide_eq_false (by omega)
              have t2c : decide (97 ≤ y) = false := decide_eq_false (by omega)
              have t3a : decide ((y : Int) ≤ 122) = true := decide_eq_true (by omega)
              have t3b : decide (y ≤ 122) = true := decide_eq_true (by omega)
              have t4a : decide ((y : Int) ≥ 65) = false := decide_eq_false (by omega)
              have t4b : decide ((65 : Int) ≤ (y : Int)) = false := decide_eq_false (by omega)
              have t4c : decide (65 ≤ y) = false := decide_eq_false (by omega)
              have t5a : decide ((y : Int) ≤ 90) = true := decide_eq_true (by omega)
              have t5b : decide (y ≤ 90) = true := decide_eq_true (by omega)
              have hdv : d = 99 := by rw [hdd, dig36, if_neg (by omega), if_neg (by omega), if_neg (by omega)]
              clear hdd
              have hB99 : B ≤ 99 := by have := HB.out; omega
              have q1 : decide ((99 : Int) ≥ (B : Int)) = true := decide_eq_true (by omega)
              have q2 : decide ((B : Int) ≤ (99 : Int)) = true := decide_eq_true (by omega)
              have q3 : decide (B ≤ 99) = true := decide_eq_true (by omega)
              have HBB := Lib.hid (HBAD.out (by rw [hdv]; exact hB99))
              clear hdv
              go_wp2_with fail
              go_ret2
              exact .inr ⟨.inl (by rw [← HDD.out]; exact HBB.out), rfl, hBw⟩
            · skip
              by_cases hc3 : y < 91
              · skip
                have t0a : decide ((y : Int) ≥ 48) = true := decide_eq_true (by omega)
                have t0b : decide ((48 : Int) ≤ (y : Int)) = true := decide_eq_true (by omega)
                have t0c : decide (48 ≤ y) = true := decide_eq_true (by omega)
                have t1a : decide ((y : Int) ≤ 57) = false := decide_eq_false (by omega)
                have t1b : decide (y ≤ 57) = false := decide_eq_false (by omega)
                have t2a : decide ((y : Int) ≥ 97) = false := decide_eq_false (by omega)
                have t2b : decide ((97 : Int) ≤ (y : Int)) = false := decide_eq_false (by omega)
                have t2c : decide (97 ≤ y) = false := decide_eq_false (by omega)
                have t3a : decide ((y : Int) ≤ 122) = true := decide_eq_true (by omega)
                have t3b : decide (y ≤ 122) = true := decide_eq_true (by omega)
                have t4a : decide ((y : Int) ≥ 65) = true := decide_eq_true (by omega)
                have t4b : decide ((65 : Int) ≤ (y : Int)) = true := decide_eq_true (by omega)
                have t4c : decide (65 ≤ y) = true := decide_eq_true (by omega)
                have t5a : decide ((y : Int) ≤ 90) = true := decide_eq_true (by omega)
                have t5b : decide (y ≤ 90) = true := decide_eq_true (by omega)
                have hdv : d = y - 65 + 10 := by rw [hdd, dig36, if_neg (by omega), if_neg (by omega), if_pos (by omega)]
                obtain ⟨d0, hd0⟩ : ∃ d0, d0 = y - 65 := ⟨_, rfl⟩
                have hdI : (y : Int) - 65 = (d0 : Int) := by omega
                have hdJ : (d0 : Int) + 10 = (d : Int) := by omega
                have hdb : d < 100 := by omega
                have hd1 : d0 < 100 := by omega
                clear hd0
                clear hdd hdv
                by_cases hdB : d < B
                · have q1 : decide ((d : Int) ≥ (B : Int)) = false := decide_eq_false (by omega)
                  have q2 : decide ((B : Int) ≤ (d : Int)) = false := decide_eq_false (by omega)
                  have q3 : decide (B ≤ d) = false := decide_eq_false (by omega)
                  have HN2 := Lib.hid (HNT.out hdB)
                  have HG2 := Lib.hid (HGD.out hdB)
                  have hd16 : d < 16 := by have := HB.out; omega
                  have hB16 : 2 ≤ B ∧ B ≤ 16 := HB.out
                  have hvB : v * B < bigTop := by have := HN2.out; omega
                  have HVB := Lib.hid hvB
                  clear hdB hvB
                  go_wp2_with fail
                  refine (words_any B _ (by omega)).mono ?_
                  rintro e w1 ⟨⟨v1, rfl, hv1⟩, hb1⟩
                  have HM := Lib.hid (mul_any v B _ v1 w1 (by omega) (by omega) HVB.out (HA.out.below hb1) hv1)
                  have HB1 := Lib.hid (hBw.trans (hb1.mono hBw.size))
                  clear hv1 hb1
                  go_wp2_with fail
                  refine HM.out.mono ?_
                  rintro e w2 ⟨⟨v2, rfl, hv2⟩, hb2⟩
                  have HV2 := Lib.hid hv2
                  have HB2 := Lib.hid (HB1.out.trans (hb2.mono HB1.out.size))
                  clear hv2 hb2
                  go_wp2_with fail
                  refine (words_any d _ (by omega)).mono ?_
                  rintro e w3 ⟨⟨v3, rfl, hv3⟩, hb3⟩
                  have HAD := Lib.hid (add_any (v * B) d v2 v3 w3 HN2.out (HV2.out.below hb3) hv3)
                  have HB3 := Lib.hid (HB2.out.trans (hb3.mono HB2.out.size))
                  clear hv3 hb3
                  go_wp2_with fail
                  refine HAD.out.mono ?_
                  rintro e w4 ⟨⟨v4, rfl, hv4⟩, hb4⟩
                  have HV4 := Lib.hid hv4
                  have HB4 := Lib.hid (HB3.out.trans (hb4.mono HB3.out.size))
                  clear hv4 hb4
                  go_wp2_with fail
                  exact ⟨⟨k + 1, by go_num, by omega, by rw [HNX.out]; exact HV4.out, HG2.out, HB4.out⟩, by simp [intOf]; omega⟩
                · have q1 : decide ((d : Int) ≥ (B : Int)) = true := decide_eq_true (by omega)
                  have q2 : decide ((B : Int) ≤ (d : Int)) = true := decide_eq_true (by omega)
                  have q3 : decide (B ≤ d) = true := decide_eq_true (by omega)
                  have HBB := Lib.hid (HBAD.out (by omega))
                  clear hdB
                  go_wp2_with fail
                  go_ret2
                  exact .inr ⟨.inl (by rw [← HDD.out]; exact HBB.out), rfl, hBw⟩
              · skip
                by_cases hc4 : y < 97
                · skip
                  have t0a : decide ((y : Int) ≥ 48) = true := decide_eq_true (by omega)
                  have t0b : decide ((48 : Int) ≤ (y : Int)) = true := decide_eq_true (by omega)
                  have t0c : decide (48 ≤ y) = true := decide_eq_true (by omega)
                  have t1a : decide ((y : Int) ≤ 57) = false := decide_eq_false (by omega)
                  have t1b : decide (y ≤ 57) = false := decide_eq_false (by omega)
                  have t2a : decide ((y : Int) ≥ 97) = false := decide_eq_false (by omega)
                  have t2b : decide ((97 : Int) ≤ (y : Int)) = false := decide_eq_false (by omega)
                  have t2c : decide (97 ≤ y) = false := decide_eq_false (by omega)
                  have t3a : decide ((y : Int) ≤ 122) = true := decide_eq_true (by omega)
                  have t3b : decide (y ≤ 122) = true := decide_eq_true (by omega)
                  have t4a : decide ((y : Int) ≥ 65) = true := decide_eq_true (by omega)
                  have t4b : decide ((65 : Int) ≤ (y : Int)) = true := decide_eq_true (by omega)
                  have t4c : decide (65 ≤ y) = true := decide_eq_true (by omega)
                  have t5a : decide ((y : Int) ≤ 90) = false := decide_eq_false (by omega)
                  have t5b : decide (y ≤ 90) = false := decide_eq_false (by omega)
                  have hdv : d = 99 := by rw [hdd, dig36, if_neg (by omega), if_neg (by omega), if_neg (by omega)]
                  clear hdd
                  have hB99 : B ≤ 99 := by have := HB.out; omega
                  have q1 : decide ((99 : Int) ≥ (B : Int)) = true := decide_eq_true (by omega)
                  have q2 : decide ((B : Int) ≤ (99 : Int)) = true := decide_eq_true (by omega)
                  have q3 : decide (B ≤ 99) = true := decide_eq_true (by omega)
                  have HBB := Lib.hid (HBAD.out (by rw [hdv]; exact hB99))
                  clear hdv
                  go_wp2_with fail
                  go_ret2
                  exact .inr ⟨.inl (by rw [← HDD.out]; exact HBB.out), rfl, hBw⟩
                · skip
                  by_cases hc5 : y < 123
                  · skip
                    have t0a : decide ((y : Int) ≥ 48) = true := decide_eq_true (by omega)
                    have t0b : decide ((48 : Int) ≤ (y : Int)) = true := decide_eq_true (by omega)
                    have t0c : decide (48 ≤ y) = true := decide_eq_true (by omega)
                    have t1a : decide ((y : Int) ≤ 57) = false := decide_eq_false (by omega)
                    have t1b : decide (y ≤ 57) = false := decide_eq_false (by omega)
                    have t2a : decide ((y : Int) ≥ 97) = true := decide_eq_true (by omega)
                    have t2b : decide ((97 : Int) ≤ (y : Int)) = true := decide_eq_true (by omega)
                    have t2c : decide (97 ≤ y) = true := decide_eq_true (by omega)
                    have t3a : decide ((y : Int) ≤ 122) = true := decide_eq_true (by omega)
                    have t3b : decide (y ≤ 122) = true := decide_eq_true (by omega)
                    have t4a : decide ((y : Int) ≥ 65) = true := decide_eq_true (by omega)
                    have t4b : decide ((65 : Int) ≤ (y : Int)) = true := decide_eq_true (by omega)
                    have t4c : decide (65 ≤ y) = true := decide_eq_true (by omega)
                    have t5a : decide ((y : Int) ≤ 90) = false := decide_eq_false (by omega)
                    have t5b : decide (y ≤ 90) = false := decide_eq_false (by omega)
                    have hdv : d = y - 97 + 10 := by rw [hdd, dig36, if_neg (by omega), if_pos (by omega)]
                    obtain ⟨d0, hd0⟩ : ∃ d0, d0 = y - 97 := ⟨_, rfl⟩
                    have hdI : (y : Int) - 97 = (d0 : Int) := by omega
                    have hdJ : (d0 : Int) + 10 = (d : Int) := by omega
                    have hdb : d < 100 := by omega
                    have hd1 : d0 < 100 := by omega
                    clear hd0
                    clear hdd hdv
                    by_cases hdB : d < B
                    · have q1 : decide ((d : Int) ≥ (B : Int)) = false := decide_eq_false (by omega)
                      have q2 : decide ((B : Int) ≤ (d : Int)) = false := decide_eq_false (by omega)
                      have q3 : decide (B ≤ d) = false := decide_eq_false (by omega)
                      have HN2 := Lib.hid (HNT.out hdB)
                      have HG2 := Lib.hid (HGD.out hdB)
                      have hd16 : d < 16 := by have := HB.out; omega
                      have hB16 : 2 ≤ B ∧ B ≤ 16 := HB.out
                      have hvB : v * B < bigTop := by have := HN2.out; omega
                      have HVB := Lib.hid hvB
                      clear hdB hvB
                      go_wp2_with fail
                      refine (words_any B _ (by omega)).mono ?_
                      rintro e w1 ⟨⟨v1, rfl, hv1⟩, hb1⟩
                      have HM := Lib.hid (mul_any v B _ v1 w1 (by omega) (by omega) HVB.out (HA.out.below hb1) hv1)
                      have HB1 := Lib.hid (hBw.trans (hb1.mono hBw.size))
                      clear hv1 hb1
                      go_wp2_with fail
                      refine HM.out.mono ?_
                      rintro e w2 ⟨⟨v2, rfl, hv2⟩, hb2⟩
                      have HV2 := Lib.hid hv2
                      have HB2 := Lib.hid (HB1.out.trans (hb2.mono HB1.out.size))
                      clear hv2 hb2
                      go_wp2_with fail
                      refine (words_any d _ (by omega)).mono ?_
                      rintro e w3 ⟨⟨v3, rfl, hv3⟩, hb3⟩
                      have HAD := Lib.hid (add_any (v * B) d v2 v3 w3 HN2.out (HV2.out.below hb3) hv3)
                      have HB3 := Lib.hid (HB2.out.trans (hb3.mono HB2.out.size))
                      clear hv3 hb3
                      go_wp2_with fail
                      refine HAD.out.mono ?_
                      rintro e w4 ⟨⟨v4, rfl, hv4⟩, hb4⟩
                      have HV4 := Lib.hid hv4
                      have HB4 := Lib.hid (HB3.out.trans (hb4.mono HB3.out.size))
                      clear hv4 hb4
                      go_wp2_with fail
                      exact ⟨⟨k + 1, by go_num, by omega, by rw [HNX.out]; exact HV4.out, HG2.out, HB4.out⟩, by simp [intOf]; omega⟩
                    · have q1 : decide ((d : Int) ≥ (B : Int)) = true := decide_eq_true (by omega)
                      have q2 : decide ((B : Int) ≤ (d : Int)) = true := decide_eq_true (by omega)
                      have q3 : decide (B ≤ d) = true := decide_eq_true (by omega)
                      have HBB := Lib.hid (HBAD.out (by omega))
                      clear hdB
                      go_wp2_with fail
                      go_ret2
                      exact .inr ⟨.inl (by rw [← HDD.out]; exact HBB.out), rfl, hBw⟩
                  · skip
                    have t0a : decide ((y : Int) ≥ 48) = true := decide_eq_true (by omega)
                    have t0b : decide ((48 : Int) ≤ (y : Int)) = true := decide_eq_true (by omega)
                    have t0c : decide (48 ≤ y) = true := decide_eq_true (by omega)
                    have t1a : decide ((y : Int) ≤ 57) = false := decide_eq_false (by omega)
                    have t1b : decide (y ≤ 57) = false := decide_eq_false (by omega)
                    have t2a : decide ((y : Int) ≥ 97) = true := decide_eq_true (by omega)
                    have t2b : decide ((97 : Int) ≤ (y : Int)) = true := decide_eq_true (by omega)
                    have t2c : decide (97 ≤ y) = true := decide_eq_true (by omega)
                    have t3a : decide ((y : Int) ≤ 122) = false := decide_eq_false (by omega)
                    have t3b : decide (y ≤ 122) = false := decide_eq_false (by omega)
                    have t4a : decide ((y : Int) ≥ 65) = true := decide_eq_true (by omega)
                    have t4b : decide ((65 : Int) ≤ (y : Int)) = true := decide_eq_true (by omega)
                    have t4c : decide (65 ≤ y) = true := decide_eq_true (by omega)
                    have t5a : decide ((y : Int) ≤ 90) = false := decide_eq_false (by omega)
                    have t5b : decide (y ≤ 90) = false := decide_eq_false (by omega)
                    have hdv : d = 99 := by rw [hdd, dig36, if_neg (by omega), if_neg (by omega), if_neg (by omega)]
                    clear hdd
                    have hB99 : B ≤ 99 := by have := HB.out; omega
                    have q1 : decide ((99 : Int) ≥ (B : Int)) = true := decide_eq_true (by omega)
                    have q2 : decide ((B : Int) ≤ (99 : Int)) = true := decide_eq_true (by omega)
                    have q3 : decide (B ≤ 99) = true := decide_eq_true (by omega)
                    have HBB := Lib.hid (HBAD.out (by rw [hdv]; exact hB99))
                    clear hdv
                    go_wp2_with fail
                    go_ret2
                    exact .inr ⟨.inl (by rw [← HDD.out]; exact HBB.out), rfl, hBw⟩
      · obtain rfl : k = n := by omega
        have hend : v = valB B D := by rw [hv, List.take_of_length_le (by rw [← HN.out]; exact Nat.le_refl _)]
        have hall : allB B D = true := List.all_eq_true.2 fun c hc => decide_eq_true (HDG.out c (by rw [List.take_of_length_le (by rw [← HN.out]; exact Nat.le_refl _)]; exact hc))
        have HG := Lib.hid (give_s p v ng _ _ (HP.out.below hBw) hA)
        have HE := Lib.hid hend
        have HAL := Lib.hid hall
        have HK := Lib.hid (Keeps.of_below (F := fun i => i = p) hBw)
        have hdk : decide (k < k) = false := decide_eq_false (by omega)
        clear hend hA hv hall
        go_wp2_with fail
        refine HG.out.mono ?_
        rintro e w2 ⟨rfl, h1, h2⟩
        have H1 := Lib.hid h1
        have H2 := Lib.hid (HK.out.trans h2 (fun _ _ h => h))
        clear h1 h2
        go_wp2_with fail
        refine bodyPost_ret (v := .tuple #[.pointer (some ⟨p, 0, none⟩), .bool true]) (by simp [results, Tryd.results17, go_sem]) rfl (.inl ⟨by rw [← HDD.out]; exact HAL.out, by rw [← HDD.out]; exact HD0.out, rfl, by rw [← HDD.out, ← HNG.out, ← HE.out]; exact H1.out, H2.out⟩)
end Go.Proofs.YtjbkfkgdpbjliaaDoor
