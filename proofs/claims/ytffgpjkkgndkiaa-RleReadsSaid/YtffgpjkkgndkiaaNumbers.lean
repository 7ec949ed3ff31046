/-
  rle.number: the number that a text begins with.
-/
import Derived.Test.YtffgpjkkgndkiaaBigText
namespace Go.Proofs.Ytffgpjkkgndkiaa
set_option maxRecDepth 100000
open Go.RowKit

def isD (c : UInt8) : Bool := decide (48 ≤ c.toNat) && decide (c.toNat ≤ 57)
theorem isD_iff {c : UInt8} : isD c = true ↔ 48 ≤ c.toNat ∧ c.toNat ≤ 57 := by simp [isD]
theorem isD_no {c : UInt8} (h : c.toNat < 48 ∨ 57 < c.toNat) : isD c = false := Bool.eq_false_iff.2 fun h' => by have := isD_iff.1 h'; omega
/-- How many digits a text begins with. -/
def digs : List UInt8 → Nat
  | [] => 0
  | c :: r => if isD c = true then digs r + 1 else 0
theorem digs_le : ∀ l, digs l ≤ l.length
  | [] => Nat.le_refl _
  | c :: r => by rw [digs]; have := digs_le r; split <;> simp <;> omega
theorem digs_get : ∀ {l : List UInt8} {i : Nat} {c : UInt8}, i < digs l → l[i]? = some c → isD c = true
  | [], _, _, h, _ => by simp [digs] at h
  | a :: r, i, c, h, hc => by
    rw [digs] at h
    split at h
    · next ha =>
      cases i with
      | zero => simp at hc; rw [← hc]; exact ha
      | succ i => exact digs_get (l := r) (i := i) (by omega) (by simpa using hc)
    · omega
theorem digs_next : ∀ {l : List UInt8} {k : Nat} {c : UInt8}, k ≤ digs l → l[k]? = some c → isD c = true → k + 1 ≤ digs l
  | [], _, _, _, h, _ => by simp at h
  | a :: r, 0, c, _, hc, hd => by simp at hc; subst hc; rw [digs, if_pos hd]; omega
  | a :: r, k + 1, c, h, hc, hd => by
    rw [digs] at h ⊢
    split
    · next ha =>
      rw [if_pos ha] at h
      have := digs_next (l := r) (k := k) (by omega) (by simpa using hc) hd
      omega
    · next ha => rw [if_neg ha] at h; omega
theorem digs_stop {l : List UInt8} {k : Nat} (h : k ≤ digs l) (hs : k = l.length ∨ ∃ c, l[k]? = some c ∧ isD c = false) : digs l = k := by
  rcases hs with hs | ⟨c, hc, hd⟩
  · have := digs_le l; omega
  · by_cases hlt : k < digs l
    · have := digs_get hlt hc
      rw [hd] at this; cases this
    · omega
theorem digs_all (l : List UInt8) : ∀ c ∈ l.take (digs l), digB c := fun c hc => by
  obtain ⟨i, hi⟩ := List.mem_iff_getElem?.1 hc
  rw [List.getElem?_take] at hi
  split at hi
  · exact isD_iff.1 (digs_get (by assumption) hi)
  · cases hi
/-- Is it a number: 1 to 12 digits, no nought ahead? -/
def okN (l : List UInt8) : Bool := decide (0 < digs l) && decide (digs l < 13) && (decide (digs l = 1) || decide (l.head? ≠ some 48))
def numK (l : List UInt8) : Nat := min (digs l) 13
theorem okN_k {l : List UInt8} {k : Nat} (h : numK l = k) : okN l = (decide (0 < k) && decide (k < 13) && (decide (k = 1) || decide (l.head? ≠ some 48))) := by
  unfold numK at h
  by_cases h13 : digs l < 13
  · have : digs l = k := by omega
    rw [okN, this]
  · have hk : k = 13 := by omega
    subst hk
    have e : decide (digs l < 13) = false := by simp; omega
    rw [okN, e]
    simp
theorem head_byte {c : UInt8} {r : List UInt8} {m : Nat} (h : c.toNat = m) : ((c :: r).head? ≠ some 48) ↔ m ≠ 48 := by
  constructor
  · intro h1 h2
    refine h1 ?_
    have : c = 48 := UInt8.toNat_inj.1 (by rw [h, h2]; rfl)
    rw [this]; rfl
  · intro h1 h2
    simp only [List.head?_cons, Option.some.injEq] at h2
    rw [h2] at h
    exact h1 h.symm
set_option maxHeartbeats 4000000 in
theorem number_any (l : List UInt8) (w : World) (hl : l.length ≤ 140737488351232) :
    Calls Try.prog 101 #[.string (txt l)] w fun e w' => e = .returned (.tuple #[.int .i64 (decV (l.take (numK l)) : Nat), .string (txt (l.drop (numK l))), .bool (okN l)]) ∧ Below w.heap.size w w' := by
  obtain ⟨S, hS⟩ : ∃ S, S = txt l := ⟨_, rfl⟩
  have hsz : S.size = l.length := by rw [hS, txt_size]
  have hdl := digs_le l
  have hlim : ∀ k, k ≤ 13 → k ≤ digs l → decV (l.take k) < 10000000000000 := fun k h13 hk => by
    have h1 := decV_lt (l.take (digs l)) (digs_all l) k (by rw [List.length_take]; omega)
    rw [List.take_take, Nat.min_eq_left hk] at h1
    exact Nat.lt_of_lt_of_le h1 (Nat.pow_le_pow_right (by omega) h13)
  have HLIM := Lib.hid hlim
  obtain ⟨n, hn⟩ : ∃ n, n = l.length := ⟨_, rfl⟩
  have HN := Lib.hid hn
  rw [← hn] at hsz hl hdl
  rw [← hS]
  have HS := Lib.hid hS
  have HX := Lib.hid (fun k => show S.extract k n = txt (l.drop k) by rw [hS, hn, extract_list, List.take_length])
  obtain ⟨D, hD⟩ : ∃ D, D = digs l := ⟨_, rfl⟩
  have HDD := Lib.hid hD
  rw [← hD] at hdl
  clear hlim hn hS hD
  go_enter Try.func101, Try.ntmps101
  go_wp2_with fail
  go_loopw [5, 6] (fun v i wr => ∃ k : Nat, v = .int .i64 (decV (l.take k) : Nat) ∧ i = .int .i64 k ∧ k ≤ D ∧ k ≤ 13 ∧ wr = w) (fun _ i _ => 13 - (intOf i).toNat)
  case atStart => exact ⟨0, rfl, rfl, Nat.zero_le _, by omega, rfl⟩
  case round =>
    obtain ⟨k, rfl, rfl, hkD, hk13, hw⟩ := hrel
    subst hw
    have hv := HLIM.out k hk13 (by rw [← HDD.out]; exact hkD)
    obtain ⟨v, hve⟩ : ∃ v, v = decV (l.take k) := ⟨_, rfl⟩
    have HV := Lib.hid hve
    rw [← hve] at hv ⊢
    clear hve
    by_cases hstep : ∃ c, l[k]? = some c ∧ isD c = true ∧ k < 13
    · obtain ⟨c, hc, hd, h13⟩ := hstep
      have hks : k < S.size := by have := (List.getElem?_eq_some_iff.1 hc).1; have := HN.out; omega
      have hg : S[k].toNat = c.toNat := by have h := HS.out; subst h; exact txt_get hc hks
      have hnx := decV_take hc
      rw [← HV.out] at hnx
      have hd1 := isD_iff.1 hd
      have hkD1 : k + 1 ≤ D := by have := digs_next (by rw [← HDD.out]; exact hkD) hc hd; rw [← HDD.out] at this; exact this
      obtain ⟨y, hy⟩ : ∃ y, y = c.toNat := ⟨_, rfl⟩
      rw [← hy] at hg hd1 hnx
      obtain ⟨d, hdd⟩ : ∃ d, d = y - 48 := ⟨_, rfl⟩
      rw [← hdd] at hnx
      have hyI : (y : Int) - 48 = (d : Int) := by omega
      have hd9 : d ≤ 9 := by omega
      have HNX := Lib.hid hnx
      clear hnx hc hy hdd hd
      go_wp2_with fail
      exact ⟨⟨k + 1, by rw [HNX.out]; go_num, by go_num, hkD1, by omega, by first | rfl | trivial⟩, by simp [intOf]; omega⟩
    · have hK : numK l = k := by
        unfold numK
        by_cases h13 : k = 13
        · have := HDD.out; omega
        · have : digs l = k := digs_stop (by rw [← HDD.out]; exact hkD) (by
            by_cases hkl : k < l.length
            · obtain ⟨c, hc⟩ : ∃ c, l[k]? = some c := ⟨_, List.getElem?_eq_getElem hkl⟩
              refine .inr ⟨c, hc, ?_⟩
              cases hd : isD c
              · rfl
              · exact absurd ⟨c, hc, hd, by omega⟩ hstep
            · left; have := HN.out; omega)
          omega
      have hok := okN_k hK
      have HANS : Aside ((decV (l.take (numK l)), txt (l.drop (numK l))) = (v, S.extract k n)) := by show _ = _; rw [hK, ← HV.out, ← HX.out k]
      have HE : Hid (∀ (X : ByteArray) (b : Bool), S.extract k n = X → okN l = b → Ending.returned (.tuple #[.int .i64 v, .string X, .bool b]) = Ending.returned (.tuple #[.int .i64 (decV (l.take (numK l)) : Nat), .string (txt (l.drop (numK l))), .bool (okN l)])) := Lib.hid fun X b hX hb => by
        rw [(Prod.mk.inj HANS.out).1, (Prod.mk.inj HANS.out).2, hX, hb]
      have hkn : k ≤ n := by omega
      have hcase : (k = n) ∨ (k < n ∧ k = 13) ∨ (∃ h : k < S.size, k < n ∧ k < 13 ∧ S[k].toNat < 48) ∨ (∃ h : k < S.size, k < n ∧ k < 13 ∧ 57 < S[k].toNat) := by
        by_cases h1 : k = n
        · exact .inl h1
        · by_cases h2 : k = 13
          · exact .inr (.inl ⟨by omega, h2⟩)
          · have hks : k < S.size := by omega
            obtain ⟨c, hc⟩ : ∃ c, l[k]? = some c := ⟨_, List.getElem?_eq_getElem (by have := HN.out; omega)⟩
            have hg : S[k].toNat = c.toNat := by have h := HS.out; subst h; exact txt_get hc hks
            have hd : ¬ isD c = true := fun hd => hstep ⟨c, hc, hd, by omega⟩
            rw [isD_iff] at hd
            rw [← hg] at hd
            by_cases h3 : S[k].toNat < 48
            · exact .inr (.inr (.inl ⟨hks, by omega, by omega, h3⟩))
            · exact .inr (.inr (.inr ⟨hks, by omega, by omega, by omega⟩))
      have hend : (k = 0 ∧ okN l = false) ∨ (k = 13 ∧ okN l = false) ∨ (k = 1 ∧ okN l = true) ∨ (∃ h : 0 < S.size, 1 < k ∧ k < 13 ∧ S[0].toNat = 48 ∧ okN l = false) ∨ (∃ h : 0 < S.size, 1 < k ∧ k < 13 ∧ S[0].toNat ≠ 48 ∧ okN l = true) := by
        by_cases h0 : k = 0
        · exact .inl ⟨h0, by rw [hok, h0]; simp⟩
        · by_cases h13 : k = 13
          · exact .inr (.inl ⟨h13, by rw [hok, h13]; simp⟩)
          · by_cases h1 : k = 1
            · exact .inr (.inr (.inl ⟨h1, by rw [hok, h1]; simp⟩))
            · have hs0 : 0 < S.size := by omega
              have e1 : decide (0 < k) = true := decide_eq_true (by omega)
              have e2 : decide (k < 13) = true := decide_eq_true (by omega)
              have e3 : decide (k = 1) = false := decide_eq_false h1
              rw [e1, e2, e3] at hok
              obtain ⟨c, r, hcr⟩ : ∃ c r, l = c :: r := by
                cases hl2 : l with
                | nil => have := HN.out; rw [hl2] at this; simp at this; omega
                | cons c r => exact ⟨c, r, rfl⟩
              have hg : S[0].toNat = c.toNat := by have h := HS.out; subst h; exact txt_get (by rw [hcr]; rfl) hs0
              by_cases h48 : S[0].toNat = 48
              · refine .inr (.inr (.inr (.inl ⟨hs0, by omega, by omega, h48, ?_⟩)))
                rw [hok, hcr]
                have h2 : ¬ (c :: r).head? ≠ some 48 := fun h => (head_byte (c := c) (r := r) hg.symm).1 h h48
                simpa using h2
              · refine .inr (.inr (.inr (.inr ⟨hs0, by omega, by omega, h48, ?_⟩)))
                rw [hok, hcr]
                have := (head_byte (c := c) (r := r) hg.symm).2 h48
                simpa using this
      clear hok hK hstep
      rcases hcase with h1 | ⟨h1, h2⟩ | ⟨h0, h1, h2, h3⟩ | ⟨h0, h1, h2, h3⟩ <;> rcases hend with ⟨g1, hr⟩ | ⟨g1, hr⟩ | ⟨g1, hr⟩ | ⟨g0, g1, g2, g3, hr⟩ | ⟨g0, g1, g2, g3, hr⟩
      all_goals first | (exfalso; omega) | skip
      all_goals have HOK := Lib.hid hr
      all_goals clear hr
      all_goals try (have h1' : k = n := h1; subst h1')
      all_goals first
        | subst g1
        | (have t0 : decide (0 < k) = true := decide_eq_true (by omega)
           have t1 : decide (k < 13) = true := decide_eq_true (by omega)
           have t1i : decide ((k : Int) < 13) = true := decide_eq_true (by omega)
           have t0i : decide (0 < (k : Int)) = true := decide_eq_true (by omega)
           have t2 : (k == 1) = false := by simp <;> omega
           have t3 : ((k : Int) == 1) = false := by simp <;> omega
           obtain ⟨m0, hm0'⟩ : ∃ m0, m0 = S[0].toNat := ⟨_, rfl⟩
           have hm0 := hm0'.symm
           clear hm0'
           have t5 : m0 < 256 := by rw [← hm0]; exact UInt8.toNat_lt _
           rw [hm0] at g3
           first
             | (have t4 : ((m0 : Int) == 48) = true := by rw [g3]; rfl)
             | (have t4 : ((m0 : Int) == 48) = false := by simp <;> omega))
      all_goals
        go_wp2_with fail
        refine wp_region_grow (by kernel_rfl) (by kernel_rfl) ?_
        repeat (go_big_quiet_step (fail))
        refine wpQuiet_nil ?_
        intro _ hw'
        obtain ⟨z, hz⟩ := hw'
        subst hz
        go_wp2_with fail
        first
          | (refine bodyPost_ret (v := .tuple #[.int .i64 v, .string ByteArray.empty, .bool false]) ?_ rfl ⟨HE.out _ _ ?_ HOK.out, z.below⟩
             · (simp [results, Try.results101, go_sem] <;> omega)
             · (first | rfl | (simp; done)))
          | (refine bodyPost_ret (v := .tuple #[.int .i64 v, .string ByteArray.empty, .bool true]) ?_ rfl ⟨HE.out _ _ ?_ HOK.out, z.below⟩
             · (simp [results, Try.results101, go_sem] <;> omega)
             · (first | rfl | (simp; done)))
          | (refine bodyPost_ret (v := .tuple #[.int .i64 v, .string (S.extract 13 n), .bool false]) ?_ rfl ⟨HE.out _ _ ?_ HOK.out, z.below⟩
             · (simp [results, Try.results101, go_sem] <;> omega)
             · (first | rfl | (simp; done)))
          | (refine bodyPost_ret (v := .tuple #[.int .i64 v, .string (S.extract 0 n), .bool false]) ?_ rfl ⟨HE.out _ _ ?_ HOK.out, z.below⟩
             · (simp [results, Try.results101, go_sem] <;> omega)
             · (first | rfl | (simp; done)))
          | (refine bodyPost_ret (v := .tuple #[.int .i64 v, .string (S.extract 1 n), .bool true]) ?_ rfl ⟨HE.out _ _ ?_ HOK.out, z.below⟩
             · (simp [results, Try.results101, go_sem] <;> omega)
             · (first | rfl | (simp; done)))
          | (refine bodyPost_ret (v := .tuple #[.int .i64 v, .string (S.extract k n), .bool false]) ?_ rfl ⟨HE.out _ _ ?_ HOK.out, z.below⟩
             · (simp [results, Try.results101, go_sem] <;> omega)
             · (first | rfl | (simp; done)))
          | (refine bodyPost_ret (v := .tuple #[.int .i64 v, .string (S.extract k n), .bool true]) ?_ rfl ⟨HE.out _ _ ?_ HOK.out, z.below⟩
             · (simp [results, Try.results101, go_sem] <;> omega)
             · (first | rfl | (simp; done)))
end Go.Proofs.Ytffgpjkkgndkiaa
