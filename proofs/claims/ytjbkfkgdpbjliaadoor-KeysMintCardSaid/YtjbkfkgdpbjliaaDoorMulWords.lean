/-
  Whole numbers: mul of any two.
-/
import Derived.Test.YtjbkfkgdpbjliaaDoorBigMul
namespace Go.Proofs.YtjbkfkgdpbjliaaDoor
set_option maxRecDepth 100000
open Go.RowKit

theorem valW_set : ∀ {ws : List Nat} {i y : Nat} (v : Nat), ws[i]? = some y → valW (ws.set i v) + 4294967296 ^ i * y = valW ws + 4294967296 ^ i * v
  | [], _, _, _, h => by simp at h
  | z :: ws, 0, y, v, h => by
    obtain rfl : z = y := by simpa using h
    rw [List.set_cons_zero]
    simp only [valW, Nat.pow_zero, Nat.one_mul]
    omega
  | z :: ws, i + 1, y, v, h => by
    have ih := valW_set (ws := ws) (i := i) (y := y) v (by simpa using h)
    rw [List.set_cons_succ]
    simp only [valW, Nat.pow_succ]
    have e1 : ∀ t, 4294967296 ^ i * 4294967296 * t = 4294967296 * (4294967296 ^ i * t) := fun t => by rw [Nat.mul_comm (4294967296 ^ i), Nat.mul_assoc]
    rw [e1, e1]
    omega
/-- Behind k words of a. -/
structure MulG (A B R : List Nat) (k : Nat) : Prop where
  len : R.length = A.length + B.length
  val : valW R = valW (A.take k) * valW B
  low : ∀ x ∈ R, x < 4294967296
  far : ∀ i, k + B.length ≤ i → i < R.length → R[i]? = some 0
/-- .. and j words of b. -/
structure MulI (A B R0 : List Nat) (k x : Nat) (R : List Nat) (j c : Nat) : Prop where
  len : R.length = A.length + B.length
  val : valW R + 4294967296 ^ (k + j) * c = valW R0 + 4294967296 ^ k * (x * valW (B.take j))
  low : ∀ x ∈ R, x < 4294967296
  far : ∀ i, k + B.length ≤ i → i < R.length → R[i]? = some 0
  carry : c < 4294967296
theorem MulG.start (A B : List Nat) : MulG A B (List.replicate (A.length + B.length) 0) 0 := by
  refine ⟨by simp, ?_, fun x hx => by rw [(List.mem_replicate.1 hx).2]; omega, fun i _ hi => by rw [List.getElem?_replicate]; rw [List.length_replicate] at hi; rw [if_pos hi]⟩
  rw [valW_zeros _ (fun x hx => (List.mem_replicate.1 hx).2)]
  simp [valW]
theorem MulI.start {A B R : List Nat} {k : Nat} (h : MulG A B R k) (x : Nat) : MulI A B R k x R 0 0 := ⟨h.len, by simp [valW], h.low, h.far, by omega⟩
theorem mul_fits {x b y c : Nat} (hx : x < 4294967296) (hb : b < 4294967296) (hy : y < 4294967296) (hc : c < 4294967296) : x * b + y + c < 18446744073709551616 := by
  have : x * b ≤ 4294967295 * 4294967295 := Nat.mul_le_mul (by omega) (by omega)
  omega
theorem low_set {R : List Nat} {i v : Nat} (h : ∀ x ∈ R, x < 4294967296) (hv : v < 4294967296) : ∀ x ∈ R.set i v, x < 4294967296 := fun x hx => by
  rcases List.mem_or_eq_of_mem_set hx with h1 | h1
  · exact h x h1
  · rw [h1]; exact hv
theorem MulI.next {A B R0 R : List Nat} {k x j c b y s : Nat} (h : MulI A B R0 k x R j c) (hb : B[j]? = some b) (hy : R[k + j]? = some y) (hs : s = x * b + y + c) (hs2 : s < 18446744073709551616) : MulI A B R0 k x (R.set (k + j) (s % 4294967296)) (j + 1) (s / 4294967296) := by
  have hv := valW_set (s % 4294967296) hy
  have hj := (List.getElem?_eq_some_iff.1 hb).1
  refine ⟨by rw [List.length_set]; exact h.len, ?_, low_set h.low (Nat.mod_lt _ (by omega)), fun i hi hl => ?_, by omega⟩
  · rw [valW_take hb]
    have e := h.val
    obtain ⟨P, hP⟩ : ∃ P, P = 4294967296 ^ (k + j) := ⟨_, rfl⟩
    have e1 : 4294967296 ^ (k + (j + 1)) = P * 4294967296 := by rw [hP, ← Nat.pow_succ]; rfl
    have e2 : 4294967296 ^ k * (x * (valW (B.take j) + 4294967296 ^ j * b)) = 4294967296 ^ k * (x * valW (B.take j)) + P * (x * b) := by
      rw [hP, Nat.pow_add, Nat.mul_add, Nat.mul_add]
      congr 1
      rw [Nat.mul_assoc, Nat.mul_left_comm x]
    rw [e1, e2]
    rw [← hP] at hv e
    have e3 : P * (s % 4294967296) + P * 4294967296 * (s / 4294967296) = P * s := pow_carry P s
    have e4 : P * s = P * (x * b) + P * y + P * c := by rw [hs, Nat.mul_add, Nat.mul_add]
    omega
  · rw [List.getElem?_set_ne (by omega)]
    exact h.far i hi (by rwa [List.length_set] at hl)
theorem MulI.ends {A B R0 R : List Nat} {k x c : Nat} (h0 : MulG A B R0 k) (h : MulI A B R0 k x R B.length c) (hx : A[k]? = some x) : MulG A B (R.set (k + B.length) c) (k + 1) := by
  have hk := (List.getElem?_eq_some_iff.1 hx).1
  have hl : k + B.length < R.length := by rw [h.len]; omega
  have hy := h.far (k + B.length) (Nat.le_refl _) hl
  have hv := valW_set c hy
  refine ⟨by rw [List.length_set]; exact h.len, ?_, low_set h.low h.carry, fun i hi hl2 => ?_⟩
  · rw [valW_take hx, Nat.add_mul, ← h0.val]
    have e := h.val
    rw [List.take_length] at e
    rw [Nat.mul_assoc]
    omega
  · rw [List.getElem?_set_ne (by omega)]
    exact h.far i (by omega) (by rwa [List.length_set] at hl2)
theorem rowL_zeros {w : World} {c g : Nat} (hg : g = w.heap.size) : RowL (w.alloc (.cells (zerosW c) 66)) g (List.replicate c 0) := by
  subst hg
  exact blk_last w _ rfl
set_option maxHeartbeats 8000000 in
theorem mulG_any (n m : Nat) (u v : Value) (w : World) (hn0 : 0 < n) (hm0 : 0 < m) (hn : n < bigTop) (hm : m < bigTop) (hu : AbsOf w u n) (hv : AbsOf w v m) :
    Calls Tryd.prog 35 #[u, v] w fun e w' => (∃ r, e = .returned r ∧ AbsOf w' r (n * m)) ∧ Below w.heap.size w w' := by
  obtain ⟨a, ca, rfl, hsa, _⟩ := hu
  obtain ⟨b, cb, rfl, hsb, _⟩ := hv
  have hlta := wordsN_lt n
  have hltb := wordsN_lt m
  have hva := wordsN_val n
  have hvb := wordsN_val m
  have hla := wordsN_len hn
  have hlb := wordsN_len hm
  have hla0 : (wordsN n).length ≠ 0 := fun h => by have := wordsN_nil.1 h; omega
  have hlb0 : (wordsN m).length ≠ 0 := fun h => by have := wordsN_nil.1 h; omega
  obtain ⟨A, hA⟩ : ∃ A, A = wordsN n := ⟨_, rfl⟩
  obtain ⟨D, hD⟩ : ∃ D, D = wordsN m := ⟨_, rfl⟩
  rw [← hA] at hsa hlta hva hla hla0 ⊢
  rw [← hD] at hsb hltb hvb hlb hlb0 ⊢
  obtain ⟨la, hLA⟩ : ∃ la, la = A.length := ⟨_, rfl⟩
  obtain ⟨lb, hLB⟩ : ∃ lb, lb = D.length := ⟨_, rfl⟩
  rw [← hLA] at hsa hla hla0 ⊢
  rw [← hLB] at hsb hlb hlb0 ⊢
  have HSA := Lib.hid hsa
  have HSB := Lib.hid hsb
  have HLA := Lib.hid hLA
  have HLB := Lib.hid hLB
  have HTA := Lib.hid hlta
  have HTB := Lib.hid hltb
  have HVA := Lib.hid hva
  have HVB := Lib.hid hvb
  have hmk := make_words (la + lb) (by omega) w
  rw [show ((la + lb : Nat) : Int) = (la : Int) + (lb : Int) from by omega] at hmk
  have hz1 : ((la : Int) == 0) = false := by rw [beq_eq_false_iff_ne]; omega
  have hz2 : ((lb : Int) == 0) = false := by rw [beq_eq_false_iff_ne]; omega
  clear hsa hsb hA hD hLA hLB hlta hltb hva hvb
  go_enter Tryd.func35, Tryd.ntmps35
  go_wp2_with fail
  obtain ⟨W, hW⟩ : ∃ W, W = w.alloc (.cells (zerosW (la + lb)) 66) := ⟨_, rfl⟩
  have hR0 : RowL W w.heap.size (List.replicate (la + lb) 0) := by rw [hW]; exact rowL_zeros rfl
  have hB0 : Below w.heap.size w W := by rw [hW]; exact (Below.refl _ _).alloc (Nat.le_refl _) _
  rw [← hW]
  clear hW hmk
  go_loopw [6, 7, 8] (fun i _ _ wr => ∃ (k : Nat) (R : List Nat), i = .int .i64 k ∧ k ≤ la ∧ Aside (MulG A D R k) ∧ Aside (RowL wr w.heap.size R) ∧ Below w.heap.size w wr) (fun i _ _ _ => la - (intOf i).toNat)
  case atStart =>
    refine ⟨0, _, rfl, Nat.zero_le _, ?_, hR0, hB0⟩
    show MulG _ _ _ _
    rw [HLA.out, HLB.out]; exact MulG.start A D
  case round =>
    clear hR0 hB0
    obtain ⟨k, R, rfl, hk, HST, HR, hBw⟩ := hrel
    have hRl : R.length = la + lb := by have := HST.out.len; have h1 := HLA.out; have h2 := HLB.out; omega
    by_cases hlt : k < la
    · have hdk : decide (k < la) = true := decide_eq_true (by omega)
      obtain ⟨x, hx⟩ : ∃ x, A[k]? = some x := ⟨A[k]'(by have := HLA.out; omega), by simp⟩
      have hx1 : x < 4294967296 := HTA.out x (List.mem_of_getElem? hx)
      have HX := Lib.hid hx
      obtain ⟨V, hV⟩ : ∃ V, V = wr := ⟨_, rfl⟩
      subst hV
      clear hx
      go_wp2_with fail
      go_loopw [7, 8] (fun c j wr => ∃ (jj cc : Nat) (Q : List Nat), j = .int .i64 jj ∧ c = .int .u64 cc ∧ jj ≤ lb ∧ Aside (MulI A D R k x Q jj cc) ∧ Aside (RowL wr w.heap.size Q) ∧ Below w.heap.size w wr) (fun _ j _ => lb - (intOf j).toNat)
      case atStart => exact ⟨0, 0, R, rfl, rfl, Nat.zero_le _, MulI.start HST.out x, HR, hBw⟩
      case round =>
        clear hBw HR
        obtain ⟨jj, cc, Q, rfl, rfl, hj, HIN, HR, hBw⟩ := hrel
        have hcc := HIN.out.carry
        have hQl : Q.length = la + lb := by have := HIN.out.len; have h1 := HLA.out; have h2 := HLB.out; omega
        have hgl : w.heap.size < wr.heap.size := lt_of_block HR.out
        by_cases hjl : jj < lb
        · obtain ⟨y, hy⟩ : ∃ y, D[jj]? = some y := ⟨D[jj]'(by have := HLB.out; omega), by simp⟩
          have hy1 : y < 4294967296 := HTB.out y (List.mem_of_getElem? hy)
          obtain ⟨z, hz⟩ : ∃ z, Q[k + jj]? = some z := ⟨Q[k + jj]'(by omega), by simp⟩
          have hz1' : z < 4294967296 := HIN.out.low z (List.mem_of_getElem? hz)
          obtain ⟨p, o, rfl, hr⟩ := (HSA.out.below (by omega) hBw).row (by omega)
          obtain ⟨p2, o2, rfl, hr2⟩ := (HSB.out.below (by omega) hBw).row (by omega)
          have hc0 : wr.drew.cell? ⟨p, o + k, none⟩ = some (.int .u32 x) := hr k _ (by rw [List.getElem?_map, HX.out]; rfl)
          have hc1 : wr.drew.cell? ⟨p2, o2 + jj, none⟩ = some (.int .u32 y) := hr2 jj _ (by rw [List.getElem?_map, hy]; rfl)
          obtain ⟨ix, hix⟩ : ∃ ix, ix = k + jj := ⟨_, rfl⟩
          have hc2 : wr.drew.cell? ⟨w.heap.size, ix, none⟩ = some (.int .u32 z) := by rw [hix]; exact HR.out.cell hz
          have fr : wr.drew.frozen? ⟨w.heap.size, ix, none⟩ = false := Joins.unfrozen_of_block HR.out ix
          have fr' : wr.frozen? ⟨w.heap.size, ix, none⟩ = false := Joins.unfrozen_of_block HR.out ix
          obtain ⟨s, hs⟩ : ∃ s, s = x * y + z + cc := ⟨_, rfl⟩
          have hs1 : s < 18446744073709551616 := by rw [hs]; exact mul_fits hx1 hy1 hz1' hcc
          have HN := Lib.hid (HIN.out.next hy hz hs hs1)
          obtain ⟨lo, hlo⟩ : ∃ lo, lo = s % 4294967296 := ⟨_, rfl⟩
          obtain ⟨hi, hhi⟩ : ∃ hi, hi = s / 4294967296 := ⟨_, rfl⟩
          rw [← hlo, ← hhi, ← hix] at HN
          have HSET := Lib.hid (RowL.set (w := wr.drew) HR.out ix lo)
          have HB2 := Lib.hid (hBw.drew.setCell (p := ⟨w.heap.size, ix, none⟩) (Nat.le_refl _) (.int .u32 (lo : Nat)))
          have hxd : (x : Int) * (y : Int) = ((x * y : Nat) : Int) := by simp
          obtain ⟨t, ht⟩ : ∃ t, t = x * y := ⟨_, rfl⟩
          rw [← ht] at hs hxd
          obtain ⟨tz, htz⟩ : ∃ tz, tz = t + z := ⟨_, rfl⟩
          have ht1 : t < 18446744073709551616 := by omega
          have htz1 : tz < 18446744073709551616 := by omega
          have hsI : (t : Int) + (z : Int) = (tz : Int) := by omega
          have hsJ : (cc : Int) + (tz : Int) = (s : Int) := by omega
          have hyI : (s : Int) % 4294967296 = (lo : Int) := by omega
          have hcI : (s : Int) / 4294967296 = (hi : Int) := by omega
          have hkj : (k : Int) + (jj : Int) = (ix : Int) := by omega
          have hkj1 : ix < la + lb := by omega
          have hkj2 : (ix : Int) < (la : Int) + (lb : Int) := by omega
          have hkj3 : (0 : Int) ≤ (ix : Int) := by omega
          have q1 : (jj : Int) < (lb : Int) := by omega
          clear hr hr2 ht hs htz hlo hhi hy hz hix
          go_wp2_with fail
          go_region
          go_wp2_with fail
          exact ⟨⟨jj + 1, hi, _, by go_num, rfl, by omega, HN.out, HSET.out, HB2.out⟩, by simp [intOf]; omega⟩
        · obtain rfl : jj = lb := by omega
          obtain ⟨ix, hix⟩ : ∃ ix, ix = k + jj := ⟨_, rfl⟩
          have hlen2 : ix < Q.length := by omega
          have HE := Lib.hid (MulI.ends HST.out (by have h1 := HIN.out; have h2 := HLB.out; rw [h2] at h1; exact h1) HX.out)
          rw [← HLB.out, ← hix] at HE
          obtain ⟨z, hz⟩ : ∃ z, Q[ix]? = some z := ⟨Q[ix]'hlen2, by simp⟩
          have hc2 : wr.cell? ⟨w.heap.size, ix, none⟩ = some (.int .u32 z) := HR.out.cell hz
          have fr' : wr.frozen? ⟨w.heap.size, ix, none⟩ = false := Joins.unfrozen_of_block HR.out ix
          have HSET := Lib.hid (RowL.set (w := wr) HR.out ix cc)
          have HB2 := Lib.hid (hBw.setCell (p := ⟨w.heap.size, ix, none⟩) (Nat.le_refl _) (.int .u32 (cc : Nat)))
          have hkj : (k : Int) + (jj : Int) = (ix : Int) := by omega
          have hkj1 : ix < la + jj := by omega
          have hkj2 : (ix : Int) < (la : Int) + (jj : Int) := by omega
          have hkj3 : (0 : Int) ≤ (ix : Int) := by omega
          have hcm : (cc : Int) % 4294967296 = (cc : Int) := by omega
          have q1 : ¬ ((jj : Int) < (jj : Int)) := by omega
          clear hz hix hlen2
          go_wp2_with fail
          exact ⟨⟨k + 1, _, by go_num, by omega, HE.out, HSET.out, HB2.out⟩, by simp [intOf]; omega⟩
    · obtain rfl : la = k := by omega
      have hdk : decide (la < la) = false := decide_eq_false (by omega)
      have hval : valW R = n * m := by
        have h1 := HST.out.val
        rw [HLA.out, List.take_length, HVA.out, HVB.out] at h1
        exact h1
      have hT := trim_any R (some ⟨w.heap.size, 0, none⟩) R.length wr (by omega) HST.out.low (sl_fresh (ty := 66) HR.out (by omega)) (fun b o x hx => by cases hx; exact ⟨_, _, HR.out⟩)
      rw [hval, hRl] at hT
      have HT := Lib.hid hT
      clear hT
      go_wp2_with fail
      refine HT.out.mono ?_
      rintro e w' ⟨⟨v, rfl, hv⟩, rfl⟩
      have HAV := Lib.hid hv
      clear hv
      go_wp2_with fail
      go_ret
      exact ⟨⟨v, rfl, HAV.out⟩, hBw⟩
end Go.Proofs.YtjbkfkgdpbjliaaDoor
