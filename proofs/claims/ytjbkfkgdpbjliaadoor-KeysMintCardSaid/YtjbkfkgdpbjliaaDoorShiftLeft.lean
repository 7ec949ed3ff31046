/-
  Whole numbers: left by 31; left by 64 of 1.
-/
import Derived.Test.YtjbkfkgdpbjliaaDoorShiftRight
namespace Go.Proofs.YtjbkfkgdpbjliaaDoor
set_option maxRecDepth 100000
open Go.RowKit

theorem or_u32 (a b : Nat) (ha : a < 4294967296) (hb : b < 4294967296) : bits .or .u32 (a : Int) (b : Int) = ((a ||| b : Nat) : Int) := by
  have hx : a ||| b < 2 ^ 32 := Nat.or_lt_two_pow (by omega) (by omega)
  have h1 : (BitVec.ofInt 32 (a : Int)).toNat = a := by
    rw [BitVec.ofInt_natCast, BitVec.toNat_ofNat]; exact Nat.mod_eq_of_lt (by omega)
  have h2 : (BitVec.ofInt 32 (b : Int)).toNat = b := by
    rw [BitVec.ofInt_natCast, BitVec.toNat_ofNat]; exact Nat.mod_eq_of_lt (by omega)
  have h3 : bits .or .u32 (a : Int) (b : Int) = IntKind.u32.wrap (((BitVec.ofInt 32 (a : Int) ||| BitVec.ofInt 32 (b : Int)).toNat : Nat) : Int) := rfl
  rw [h3, BitVec.toNat_or, h1, h2, IntKind.wrap_u32]
  omega
theorem or_carry {t x : Nat} (ht : t < 2147483648) : bits .or .u32 (t : Int) ((x * 2147483648 % 4294967296 : Nat) : Int) = ((t + x * 2147483648 % 4294967296 : Nat) : Int) := by
  have e : x * 2147483648 % 4294967296 = (x % 2) <<< 31 := by rw [Nat.shiftLeft_eq]; omega
  rw [e, or_u32 t _ (by omega) (by rw [Nat.shiftLeft_eq]; omega), Nat.or_comm, (Nat.shiftLeft_add_eq_or_of_lt (by omega) (x % 2)).symm, Nat.add_comm]
theorem or_nought (x : Nat) (hx : x < 4294967296) : bits .or .u32 0 (x : Int) = (x : Int) := by
  have := or_u32 0 x (by omega) hx
  rw [Nat.zero_or] at this
  exact this
/-- Behind k words moved to the left by 31. -/
structure ShlG (A R : List Nat) (k t : Nat) : Prop where
  len : R.length = A.length + 1
  val : valW R = 2147483648 * valW (A.take k)
  low : ∀ x ∈ R, x < 4294967296
  far : ∀ i, k < i → i < R.length → R[i]? = some 0
  top : R[k]? = some t
  carry : t < 2147483648
theorem ShlG.start (A : List Nat) : ShlG A (List.replicate (A.length + 1) 0) 0 0 := by
  refine ⟨by simp, ?_, fun x hx => by rw [(List.mem_replicate.1 hx).2]; omega, fun i _ hi => by rw [List.getElem?_replicate]; rw [List.length_replicate] at hi; rw [if_pos hi], by rw [List.getElem?_replicate, if_pos (by omega)], by omega⟩
  rw [valW_zeros _ (fun x hx => (List.mem_replicate.1 hx).2)]
  simp [valW]
theorem ShlG.next {A R : List Nat} {k t x : Nat} (h : ShlG A R k t) (hx : A[k]? = some x) (hx1 : x < 4294967296) : ShlG A ((R.set k (t + x * 2147483648 % 4294967296)).set (k + 1) (x * 2147483648 / 4294967296)) (k + 1) (x * 2147483648 / 4294967296) := by
  have hk := (List.getElem?_eq_some_iff.1 hx).1
  have ht := h.carry
  have hl : k + 1 < R.length := by rw [h.len]; omega
  have h0 := h.far (k + 1) (by omega) hl
  have v1 := valW_set (t + x * 2147483648 % 4294967296) h.top
  have h0' : (R.set k (t + x * 2147483648 % 4294967296))[k + 1]? = some 0 := by rw [List.getElem?_set_ne (by omega)]; exact h0
  have v2 := valW_set (x * 2147483648 / 4294967296) h0'
  refine ⟨by rw [List.length_set, List.length_set]; exact h.len, ?_, low_set (low_set h.low (by omega)) (by omega), fun i hi hl2 => ?_, ?_, by omega⟩
  · rw [valW_take hx]
    have e := h.val
    obtain ⟨P, hP⟩ : ∃ P, P = 4294967296 ^ k := ⟨_, rfl⟩
    have e1 : 4294967296 ^ (k + 1) = P * 4294967296 := by rw [hP, ← Nat.pow_succ]
    rw [← hP] at v1 ⊢
    rw [e1] at v2
    have e3 : P * (x * 2147483648 % 4294967296) + P * 4294967296 * (x * 2147483648 / 4294967296) = P * (x * 2147483648) := pow_carry P (x * 2147483648)
    have e4 : P * (t + x * 2147483648 % 4294967296) = P * t + P * (x * 2147483648 % 4294967296) := Nat.mul_add _ _ _
    have e5 : P * (x * 2147483648) = 2147483648 * (P * x) := by rw [← Nat.mul_assoc, Nat.mul_comm]
    rw [Nat.mul_add]
    omega
  · rw [List.getElem?_set_ne (by omega), List.getElem?_set_ne (by omega)]
    exact h.far i (by omega) (by rwa [List.length_set, List.length_set] at hl2)
  · rw [List.getElem?_set_self (by rw [List.length_set]; exact hl)]
set_option maxHeartbeats 4000000 in
theorem left31_any (n : Nat) (u : Value) (w : World) (hn0 : 0 < n) (hn : n < bigTop) (hu : AbsOf w u n) :
    Calls Tryd.prog 32 #[u, .int .u64 31] w fun e w' => (∃ r, e = .returned r ∧ AbsOf w' r (2147483648 * n)) ∧ Below w.heap.size w w' := by
  obtain ⟨a, ca, rfl, hsa, _⟩ := hu
  have hlta := wordsN_lt n
  have hva := wordsN_val n
  have hla := wordsN_len hn
  have hl0 : (wordsN n).length ≠ 0 := fun h => by have := wordsN_nil.1 h; omega
  obtain ⟨A, hA⟩ : ∃ A, A = wordsN n := ⟨_, rfl⟩
  rw [← hA] at hsa hlta hva hla hl0 ⊢
  obtain ⟨la, hLA⟩ : ∃ la, la = A.length := ⟨_, rfl⟩
  rw [← hLA] at hsa hla hl0 ⊢
  have HSA := Lib.hid hsa
  have HLA := Lib.hid hLA
  have HTA := Lib.hid hlta
  have HVA := Lib.hid hva
  have hmk := make_words (la + 1) (by omega) w
  rw [show ((la + 1 : Nat) : Int) = (la : Int) + 1 from rfl] at hmk
  have hz1 : ((la : Int) == 0) = false := by rw [beq_eq_false_iff_ne]; omega
  have hz2 : ¬ ((la : Int) = 0) := by omega
  clear hsa hA hLA hlta hva
  go_enter Tryd.func32, Tryd.ntmps32
  go_wp2_with fail
  obtain ⟨W, hW⟩ : ∃ W, W = w.alloc (.cells (zerosW (la + 1)) 66) := ⟨_, rfl⟩
  have hR0 : RowL W w.heap.size (List.replicate (la + 1) 0) := by rw [hW]; exact rowL_zeros rfl
  have hB0 : Below w.heap.size w W := by rw [hW]; exact (Below.refl _ _).alloc (Nat.le_refl _) _
  rw [← hW]
  clear hW hmk
  go_loopw [8, 9] (fun i _ wr => ∃ (k t : Nat) (R : List Nat), i = .int .i64 k ∧ k ≤ la ∧ Aside (ShlG A R k t) ∧ Aside (RowL wr w.heap.size R) ∧ Below w.heap.size w wr) (fun i _ _ => la - (intOf i).toNat)
  case atStart =>
    refine ⟨0, 0, _, rfl, Nat.zero_le _, ?_, hR0, hB0⟩
    show ShlG _ _ _ _
    rw [HLA.out]; exact ShlG.start A
  case round =>
    clear hR0 hB0
    obtain ⟨k, t, R, rfl, hk, HST, HR, hBw⟩ := hrel
    have hgl : w.heap.size < wr.heap.size := lt_of_block HR.out
    have hRl : R.length = la + 1 := by have := HST.out.len; have h1 := HLA.out; omega
    by_cases hlt : k < la
    · obtain ⟨x, hx⟩ : ∃ x, A[k]? = some x := ⟨A[k]'(by have := HLA.out; omega), by simp⟩
      have hx1 : x < 4294967296 := HTA.out x (List.mem_of_getElem? hx)
      obtain ⟨q, o, rfl, hr⟩ := (HSA.out.below (by omega) hBw).row (by omega)
      have hc0 : wr.cell? ⟨q, o + k, none⟩ = some (.int .u32 x) := hr k _ (by rw [List.getElem?_map, hx]; rfl)
      have HN := Lib.hid (HST.out.next hx hx1)
      have hor1 := or_carry (x := x) HST.out.carry
      obtain ⟨v, hv⟩ : ∃ v, v = x * 2147483648 := ⟨_, rfl⟩
      rw [← hv] at HN hor1
      obtain ⟨lo, hlo⟩ : ∃ lo, lo = v % 4294967296 := ⟨_, rfl⟩
      obtain ⟨hi, hhi⟩ : ∃ hi, hi = v / 4294967296 := ⟨_, rfl⟩
      obtain ⟨tl, htl⟩ : ∃ tl, tl = t + lo := ⟨_, rfl⟩
      rw [← hlo, ← hhi, ← htl] at HN
      rw [← hlo, ← htl] at hor1
      have hhi1 : hi < 4294967296 := by omega
      have hor2 := or_nought hi hhi1
      obtain ⟨k2, hk2⟩ : ∃ k2, k2 = k + 1 := ⟨_, rfl⟩
      rw [← hk2] at HN
      have hc1 : wr.cell? ⟨w.heap.size, k, none⟩ = some (.int .u32 t) := HR.out.cell HST.out.top
      have hc2 : wr.cell? ⟨w.heap.size, k2, none⟩ = some (.int .u32 0) := HR.out.cell (HST.out.far k2 (by omega) (by omega))
      have fr : wr.frozen? ⟨w.heap.size, k, none⟩ = false := Joins.unfrozen_of_block HR.out k
      have fr2 : wr.frozen? ⟨w.heap.size, k2, none⟩ = false := Joins.unfrozen_of_block HR.out k2
      have HSET := Lib.hid (RowL.set (RowL.set (w := wr) HR.out k tl) k2 hi)
      have HB2 := Lib.hid ((hBw.setCell (p := ⟨w.heap.size, k, none⟩) (Nat.le_refl _) (.int .u32 (tl : Nat))).setCell (p := ⟨w.heap.size, k2, none⟩) (Nat.le_refl _) (.int .u32 (hi : Nat)))
      have hxI : (x : Int) * 2147483648 = (v : Int) := by omega
      have hv1 : v < 18446744073709551616 := by omega
      have hloI : (v : Int) % 4294967296 = (lo : Int) := by omega
      have hhiI : (v : Int) / 4294967296 = (hi : Int) := by omega
      have hk2I : (k : Int) + 1 = (k2 : Int) := by omega
      have q0 : (0 : Int) ≤ (k : Int) := by omega
      have q1 : (k : Int) < (la : Int) := by omega
      have q2 : (k : Int) < (la : Int) + 1 := by omega
      have q3 : (k2 : Int) < (la : Int) + 1 := by omega
      have q4 : (0 : Int) ≤ (k2 : Int) := by omega
      have q5 : k < la + 1 := by omega
      have q6 : k2 < la + 1 := by omega
      have q7 : k ≠ k2 := by omega
      have q8 : k2 ≠ k := by omega
      have HK2 := Lib.hid hk2
      clear hx hr hv hlo hhi htl hk2
      go_wp2_with fail
      exact ⟨⟨k2, hi, _, rfl, by omega, HN.out, HSET.out, HB2.out⟩, by have := HK2.out; simp [intOf]; omega⟩
    · obtain rfl : la = k := by omega
      have hval : valW R = 2147483648 * n := by
        have h1 := HST.out.val
        rw [HLA.out, List.take_length, HVA.out] at h1
        exact h1
      have hT := trim_any R (some ⟨w.heap.size, 0, none⟩) R.length wr (by omega) HST.out.low (sl_fresh (ty := 66) HR.out (by omega)) (fun b o x hx => by cases hx; exact ⟨_, _, HR.out⟩)
      rw [hval, hRl] at hT
      have HT := Lib.hid hT
      clear hT
      go_wp2_with fail
      refine HT.out.mono ?_
      rintro e w' ⟨⟨v, rfl, hv⟩, rfl⟩
      have HAV := Lib.hid hv
      clear hv
      go_wp2_with fail
      go_ret
      exact ⟨⟨v, rfl, HAV.out⟩, hBw⟩
set_option maxHeartbeats 4000000 in
theorem left64_one (u : Value) (w : World) (hu : AbsOf w u 1) :
    Calls Tryd.prog 32 #[u, .int .u64 64] w fun e w' => (∃ r, e = .returned r ∧ AbsOf w' r 18446744073709551616) ∧ Below w.heap.size w w' := by
  obtain ⟨a, ca, rfl, hsa, _⟩ := hu
  have hw1 : wordsN 1 = [1] := wordsN_one (by omega) (by omega)
  rw [hw1] at hsa ⊢
  rw [show [1].length = 1 from rfl] at hsa ⊢
  obtain ⟨q, o, rfl, hr⟩ := hsa.row (by omega)
  have hc0 : w.cell? ⟨q, o, none⟩ = some (.int .u32 1) := hr 0 _ rfl
  have hql : q < w.heap.size := block_lt_of_cell hc0
  have hmk := make_words 4 (by omega) w
  rw [show ((4 : Nat) : Int) = 4 from rfl] at hmk
  clear hsa hr
  go_enter Tryd.func32, Tryd.ntmps32
  go_wp2_with fail
  obtain ⟨W, hW⟩ : ∃ W, W = w.alloc (.cells (zerosW 4) 66) := ⟨_, rfl⟩
  have hR0 : RowL W w.heap.size [0, 0, 0, 0] := by rw [hW]; exact rowL_zeros (c := 4) rfl
  have hB0 : Below w.heap.size w W := by rw [hW]; exact (Below.refl _ _).alloc (Nat.le_refl _) _
  rw [← hW]
  clear hW hmk
  go_loopw [8, 9] (fun i _ wr => (i = .int .i64 0 ∧ Aside (RowL wr w.heap.size [0, 0, 0, 0]) ∧ Below w.heap.size w wr) ∨ (i = .int .i64 1 ∧ Aside (RowL wr w.heap.size [0, 0, 1, 0]) ∧ Below w.heap.size w wr)) (fun i _ _ => 1 - (intOf i).toNat)
  case atStart => exact .inl ⟨rfl, hR0, hB0⟩
  case round =>
    clear hR0 hB0
    obtain ⟨rfl, HR, hBw⟩ | ⟨rfl, HR, hBw⟩ := hrel
    · have hgl : w.heap.size < wr.heap.size := lt_of_block HR.out
      have hd0 : wr.cell? ⟨q, o, none⟩ = some (.int .u32 1) := (hBw.cell (p := ⟨q, o, none⟩) hql).trans hc0
      have hc2 : wr.cell? ⟨w.heap.size, 2, none⟩ = some (.int .u32 0) := HR.out.cell rfl
      have hc3 : wr.cell? ⟨w.heap.size, 3, none⟩ = some (.int .u32 0) := HR.out.cell rfl
      have fr2 : wr.frozen? ⟨w.heap.size, 2, none⟩ = false := Joins.unfrozen_of_block HR.out 2
      have fr3 : wr.frozen? ⟨w.heap.size, 3, none⟩ = false := Joins.unfrozen_of_block HR.out 3
      have HSET := Lib.hid (RowL.set (RowL.set (w := wr) HR.out 2 1) 3 0)
      have HB2 := Lib.hid ((hBw.setCell (p := ⟨w.heap.size, 2, none⟩) (Nat.le_refl _) (.int .u32 1)).setCell (p := ⟨w.heap.size, 3, none⟩) (Nat.le_refl _) (.int .u32 0))
      have o1 : bits .or .u32 (0 : Int) (1 : Int) = 1 := or_nought 1 (by omega)
      have o2 : bits .or .u32 (0 : Int) (0 : Int) = 0 := or_nought 0 (by omega)
      go_wp2_with fail
      exact ⟨.inr ⟨rfl, HSET.out, HB2.out⟩, by simp [intOf]⟩
    · have hT := trim_any [0, 0, 1, 0] (some ⟨w.heap.size, 0, none⟩) 4 wr (by decide) (by decide) (sl_fresh (ty := 66) HR.out (by decide)) (fun b o x hx => by cases hx; exact ⟨_, _, HR.out⟩)
      rw [show valW [0, 0, 1, 0] = 18446744073709551616 by rfl, show [0, 0, 1, 0].length = 4 from rfl] at hT
      have HT := Lib.hid hT
      clear hT
      go_wp2_with fail
      refine HT.out.mono ?_
      rintro e w' ⟨⟨v, rfl, hv⟩, rfl⟩
      have HAV := Lib.hid hv
      clear hv
      go_wp2_with fail
      go_ret
      exact ⟨⟨v, rfl, HAV.out⟩, hBw⟩
end Go.Proofs.YtjbkfkgdpbjliaaDoor
