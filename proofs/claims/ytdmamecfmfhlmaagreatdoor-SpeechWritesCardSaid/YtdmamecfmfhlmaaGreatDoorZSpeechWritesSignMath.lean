/-
  Numbers as texts: what the program's number and the document's signed take, plain.
-/
import Derived.Lib.Atoi
import Derived.Lib.ItoaNum
import Derived.Test.YtdmamecfmfhlmaaGreatDoorZSpeechWritesBigStr
namespace Go.Proofs.YtdmamecfmfhlmaaGreatDoor
set_option maxRecDepth 100000

def digC (c : UInt8) : Bool := decide (48 ≤ c.toNat) && decide (c.toNat ≤ 57)
/-- The sign and what stands behind it. -/
def minus (l : List UInt8) : Bool := decide (l.head? = some 45)
def bare (l : List UInt8) : List UInt8 := if minus l = true then l.tail else l
/-- 1 to 18 digits, no nought ahead, no -0. -/
def okT (ng : Bool) (t : List UInt8) : Bool := decide (t ≠ []) && decide (t.length ≤ 18) && (decide (t.length ≤ 1) || decide (t.head? ≠ some 48)) && !(ng && decide (t = [48])) && t.all digC
def okS (l : List UInt8) : Bool := okT (minus l) (bare l)
def valS (l : List UInt8) : Int := if minus l = true then -(decV (bare l) : Int) else (decV (bare l) : Int)
/-- The number of a text, or none. -/
def numS (l : List UInt8) : Option Int := if okS l = true then some (valS l) else none
theorem head_app {α : Type} {l m : List α} (h : l ≠ []) : (l ++ m).head? = l.head? := by
  cases l with
  | nil => exact absurd rfl h
  | cons a l => rfl
theorem digC_nat {c : UInt8} : digC c = true ↔ 48 ≤ c.toNat ∧ c.toNat ≤ 57 := by
  unfold digC
  simp only [Bool.and_eq_true, decide_eq_true_eq]
theorem decDigits_digC (n : Nat) : (Lib.decDigits n).all digC = true := by
  induction n using Nat.strongRecOn with
  | _ n ih =>
    by_cases h : n < 10
    · rw [Lib.decDigits_one h]
      simp only [List.all_cons, List.all_nil, Bool.and_true]
      rw [digC_nat]
      simp
      omega
    · rw [decDigits_ge h, List.all_append, ih (n / 10) (by omega)]
      simp only [List.all_cons, List.all_nil, Bool.and_true, Bool.true_and]
      rw [digC_nat]
      simp
      omega
theorem decV_snoc (l : List UInt8) (c : UInt8) : decV (l ++ [c]) = decV l * 10 + (c.toNat - 48) := by
  unfold decV
  rw [List.foldl_append]
  rfl
theorem decV_decDigits (n : Nat) : decV (Lib.decDigits n) = n := by
  induction n using Nat.strongRecOn with
  | _ n ih =>
    by_cases h : n < 10
    · rw [Lib.decDigits_one h]
      show 0 * 10 + ((UInt8.ofNat (48 + n)).toNat - 48) = n
      simp
      omega
    · rw [decDigits_ge h, decV_snoc, ih (n / 10) (by omega)]
      simp
      omega
theorem decDigits_ne (n : Nat) : Lib.decDigits n ≠ [] := by
  intro e
  have := Lib.decDigits_length n
  rw [e] at this
  have := Lib.nDigits_pos n
  simp at *
  omega
theorem decDigits_head {n : Nat} (hn : 0 < n) : (Lib.decDigits n).head? ≠ some 48 := by
  induction n using Nat.strongRecOn with
  | _ n ih =>
    by_cases h : n < 10
    · rw [Lib.decDigits_one h]
      intro e
      have e' : UInt8.ofNat (48 + n) = 48 := by simpa using e
      have := congrArg UInt8.toNat e'
      simp at this
      omega
    · rw [decDigits_ge h, head_app (decDigits_ne _)]
      exact ih (n / 10) (by omega) (by omega)
theorem decDigits_le {n k : Nat} (h : n < 10 ^ k) (hk : 0 < k) : (Lib.decDigits n).length ≤ k := by
  rw [Lib.decDigits_length]
  rcases Nat.lt_or_ge k (Lib.nDigits n) with h1 | h1
  · exfalso
    induction k generalizing n with
    | zero => omega
    | succ k ih =>
      by_cases hn : n < 10
      · rw [Lib.nDigits_small hn] at h1; omega
      · rw [Lib.nDigits_big (by omega)] at h1
        by_cases hk0 : k = 0
        · subst hk0; simp at h; omega
        · exact ih (n := n / 10) (by rw [Nat.pow_succ] at h; omega) (by omega) (by omega)
  · exact h1
/-- A numeral without noughts ahead is the one of its number. -/
theorem decDigits_decV : ∀ (k : Nat) (t : List UInt8), t.length = k → t ≠ [] → t.all digC = true → (t.length ≤ 1 ∨ t.head? ≠ some 48) → Lib.decDigits (decV t) = t
  | 0, t, hl, hn, _, _ => absurd (List.eq_nil_of_length_eq_zero hl) hn
  | 1, t, hl, _, hd, _ => by
    match t, hl with
    | [c], _ =>
      have hc := digC_nat.1 (by simpa using hd)
      show Lib.decDigits (0 * 10 + (c.toNat - 48)) = [c]
      rw [Nat.zero_mul, Nat.zero_add, Lib.decDigits_one (by omega)]
      congr 1
      apply UInt8.toNat_inj.1
      simp
      omega
  | k + 2, t, hl, hn, hd, hh => by
    obtain ⟨r, c, rfl⟩ : ∃ r c, t = r ++ [c] := ⟨t.dropLast, t.getLast hn, (List.dropLast_concat_getLast hn).symm⟩
    have hrl : r.length = k + 1 := by simpa using hl
    have hrn : r ≠ [] := fun e => by subst e; simp at hrl
    rw [List.all_append, Bool.and_eq_true] at hd
    have hc := digC_nat.1 (by simpa using hd.2)
    have hh' : r.head? ≠ some 48 := by
      rcases hh with h | h
      · rw [List.length_append, hrl] at h; simp at h
      · rwa [head_app hrn] at h
    have ih := decDigits_decV (k + 1) r hrl hrn hd.1 (.inr hh')
    have hpos : 0 < decV r := by
      rcases Nat.eq_zero_or_pos (decV r) with h0 | h0
      · rw [h0, Lib.decDigits_one (by omega)] at ih
        exact absurd (by rw [← ih]; rfl) hh'
      · exact h0
    rw [decV_snoc, decDigits_ge (by omega), show (decV r * 10 + (c.toNat - 48)) / 10 = decV r by omega, ih, show (decV r * 10 + (c.toNat - 48)) % 10 = c.toNat - 48 by omega]
    congr 2
    apply UInt8.toNat_inj.1
    simp
    omega
/-- What the document takes: read, written again, and less than 10^18. -/
def strZ (ng : Bool) (n : Nat) : List UInt8 := if ng = true ∧ 0 < n then 45 :: Lib.decDigits n else Lib.decDigits n
def signOk (l : List UInt8) : Bool := allB 10 (cutS l).2 && decide ((cutS l).2 ≠ []) && decide (l = strZ (cutS l).1 (valB 10 (cutS l).2)) && decide (valB 10 (cutS l).2 < 1000000000000000000)
def signV (l : List UInt8) : Int := if (cutS l).1 = true then -(valB 10 (cutS l).2 : Int) else (valB 10 (cutS l).2 : Int)
theorem dig36_dec {c : UInt8} : dig36 c.toNat < 10 ↔ digC c = true := by
  rw [digC_nat]
  unfold dig36
  split
  · next h => constructor <;> intro <;> omega
  · next h => split
              · constructor <;> intro <;> omega
              · split <;> constructor <;> intro <;> omega
theorem allB_dec (l : List UInt8) : allB 10 l = l.all digC := by
  unfold allB
  induction l with
  | nil => rfl
  | cons c l ih =>
    rw [List.all_cons, List.all_cons, ih]
    congr 1
    rw [Bool.eq_iff_iff, decide_eq_true_iff, dig36_dec]
theorem valB_dec {l : List UInt8} (h : l.all digC = true) : valB 10 l = decV l := by
  unfold valB decV
  suffices H : ∀ (l : List UInt8) (v : Nat), l.all digC = true → l.foldl (fun v c => v * 10 + dig36 c.toNat) v = l.foldl (fun v c => v * 10 + (c.toNat - 48)) v from H l 0 h
  intro l
  induction l with
  | nil => intro v _; rfl
  | cons c l ih =>
    intro v h
    rw [List.all_cons, Bool.and_eq_true] at h
    rw [List.foldl_cons, List.foldl_cons, ih _ h.2]
    congr 2
    have := digC_nat.1 h.1
    unfold dig36
    rw [if_pos this]
theorem digC_of_bare {t : List UInt8} {c : UInt8} {r : List UInt8} (h : t.all digC = true) (e : t = c :: r) : 48 ≤ c.toNat ∧ c.toNat ≤ 57 := by
  subst e
  rw [List.all_cons, Bool.and_eq_true] at h
  exact digC_nat.1 h.1
theorem minus_cons (c : UInt8) (r : List UInt8) : minus (c :: r) = decide (c.toNat = 45) := by
  unfold minus
  rw [Bool.eq_iff_iff, decide_eq_true_iff, decide_eq_true_iff]
  constructor
  · intro h
    have : c = 45 := by simpa using h
    rw [this]; rfl
  · intro h
    have : c = 45 := UInt8.toNat_inj.1 (by rw [h]; rfl)
    rw [this]; rfl
/-- Where digits stand, both cut alike. -/
theorem cut_same {l : List UInt8} (hd : (bare l).all digC = true) (hn : bare l ≠ []) : cutS l = (minus l, bare l) := by
  cases l with
  | nil => exact absurd rfl hn
  | cons c r =>
    unfold bare at hd hn ⊢
    rw [minus_cons] at hd hn ⊢
    by_cases h45 : c.toNat = 45
    · rw [decide_eq_true h45, if_pos rfl]
      exact cutS_45 h45
    · rw [decide_eq_false h45, if_neg (by decide)] at hd ⊢
      have := digC_of_bare hd rfl
      exact cutS_no h45 (by omega)
theorem sign_num (l : List UInt8) : (if signOk l = true then some (signV l) else none) = numS l := by
  unfold numS
  by_cases hs : okS l = true
  · rw [if_pos hs]
    have hs' := hs
    unfold okS okT at hs'
    simp only [Bool.and_eq_true, Bool.or_eq_true, decide_eq_true_eq, Bool.not_eq_true', Bool.and_eq_false_iff, decide_eq_false_iff_not] at hs'
    obtain ⟨⟨⟨⟨h1, h2⟩, h3⟩, h4⟩, h5⟩ := hs'
    have hc := cut_same h5 h1
    have hv : valB 10 (bare l) = decV (bare l) := valB_dec h5
    have hdd := decDigits_decV _ (bare l) rfl h1 h5 h3
    have hlt : decV (bare l) < 1000000000000000000 := by
      have h9 := decV_lt (bare l) (fun c hc => by
        rw [List.all_eq_true] at h5
        exact digC_nat.1 (h5 c hc)) (bare l).length (Nat.le_refl _)
      rw [List.take_length] at h9
      exact Nat.lt_of_lt_of_le h9 (Nat.pow_le_pow_right (n := 10) (by omega) h2)
    have hl : l = strZ (minus l) (decV (bare l)) := by
      unfold strZ
      by_cases hm : minus l = true
      · have h0 : 0 < decV (bare l) := by
          rcases Nat.eq_zero_or_pos (decV (bare l)) with h0 | h0
          · exfalso
            rw [h0, Lib.decDigits_one (by omega)] at hdd
            rcases h4 with h4 | h4
            · rw [hm] at h4; cases h4
            · exact h4 hdd.symm
          · exact h0
        rw [if_pos ⟨hm, h0⟩, hdd]
        cases l with
        | nil => cases hm
        | cons c r =>
          unfold bare
          rw [if_pos hm]
          rw [minus_cons, decide_eq_true_iff] at hm
          have : c = 45 := UInt8.toNat_inj.1 (by rw [hm]; rfl)
          rw [this]; rfl
      · rw [if_neg (fun e => hm e.1), hdd]
        unfold bare
        rw [if_neg hm]
    have hok : signOk l = true := by
      unfold signOk
      rw [hc]
      simp only [Bool.and_eq_true, decide_eq_true_eq]
      rw [hv, allB_dec]
      exact ⟨⟨⟨h5, h1⟩, hl⟩, hlt⟩
    rw [if_pos hok]
    unfold signV valS
    rw [hc]
    simp only
    rw [hv]
  · rw [if_neg hs]
    by_cases hok : signOk l = true
    · exfalso
      apply hs
      unfold signOk at hok
      simp only [Bool.and_eq_true, decide_eq_true_eq] at hok
      obtain ⟨⟨⟨h1, h2⟩, h3⟩, h4⟩ := hok
      obtain ⟨n, hn⟩ : ∃ n, n = valB 10 (cutS l).2 := ⟨_, rfl⟩
      rw [← hn] at h3 h4
      have hln := decDigits_le (n := n) (k := 18) h4 (by omega)
      unfold strZ at h3
      by_cases hc : (cutS l).1 = true ∧ 0 < n
      · rw [if_pos hc] at h3
        have hm : minus l = true := by rw [h3, minus_cons]; rfl
        have hb : bare l = Lib.decDigits n := by unfold bare; rw [if_pos hm, h3]; rfl
        unfold okS okT
        rw [hm, hb]
        simp only [Bool.and_eq_true, Bool.or_eq_true, decide_eq_true_eq, Bool.not_eq_true', Bool.and_eq_false_iff, decide_eq_false_iff_not]
        exact ⟨⟨⟨⟨decDigits_ne n, hln⟩, .inr (decDigits_head hc.2)⟩, .inr (fun e => decDigits_head hc.2 (by rw [e]; rfl))⟩, decDigits_digC n⟩
      · rw [if_neg hc] at h3
        have hdig := decDigits_digC n
        obtain ⟨c, r, hcr⟩ : ∃ c r, Lib.decDigits n = c :: r := by
          cases hd : Lib.decDigits n with
          | nil => exact absurd hd (decDigits_ne n)
          | cons c r => exact ⟨c, r, rfl⟩
        have h48 := digC_of_bare hdig hcr
        have hm : minus l = false := by rw [h3, hcr, minus_cons]; exact decide_eq_false (by omega)
        have hb : bare l = Lib.decDigits n := by unfold bare; rw [hm, if_neg (by decide), h3]
        unfold okS okT
        rw [hm, hb]
        simp only [Bool.and_eq_true, Bool.or_eq_true, decide_eq_true_eq, Bool.not_eq_true', Bool.and_eq_false_iff, decide_eq_false_iff_not]
        refine ⟨⟨⟨⟨decDigits_ne n, hln⟩, ?_⟩, .inl trivial⟩, hdig⟩
        rcases Nat.eq_zero_or_pos n with h0 | h0
        · left; rw [h0, Lib.decDigits_one (by omega)]; simp
        · exact .inr (decDigits_head h0)
    · rw [if_neg hok]
end Go.Proofs.YtdmamecfmfhlmaaGreatDoor
