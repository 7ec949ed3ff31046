/-
  Whole numbers: the number of bits of 2^64; division by 2^64.
-/
import Derived.Test.YtjbkfkgdpbjliaaDoorBigOps2
import Derived.Test.YtjbkfkgdpbjliaaDoorDivMath
namespace Go.Proofs.YtjbkfkgdpbjliaaDoor
set_option maxRecDepth 100000
open Go.RowKit

set_option maxHeartbeats 4000000 in
theorem length64_any (v : Value) (w : World) (hv : AbsOf w v 18446744073709551616) :
    Calls Tryd.prog 61 #[v] w fun e w' => e = .returned (.int .i64 65) ∧ Below w.heap.size w w' := by
  obtain ⟨a, ca, rfl, hs, _⟩ := hv
  rw [words64] at hs ⊢
  obtain ⟨q, o, rfl, hr⟩ := hs.row (by decide)
  have hc : w.cell? ⟨q, o + 2, none⟩ = some (.int .u32 1) := hr 2 _ rfl
  clear hs hr
  rw [show ([0, 0, 1] : List Nat).length = 3 from rfl]
  go_enter Tryd.func61, Tryd.ntmps61
  go_wp2_with fail
  go_loopw [3, 4] (fun l x wr => ∃ (k : Nat), wr = w ∧ k ≤ 1 ∧ l = .int .i64 k ∧ x = .int .u32 ((1 - k : Nat) : Int)) (fun l _ _ => 1 - (intOf l).toNat)
  case atStart => exact ⟨0, rfl, by omega, rfl, rfl⟩
  case round =>
    obtain ⟨k, rfl, hk, rfl, rfl⟩ := hrel
    obtain rfl | rfl : k = 0 ∨ k = 1 := by omega
    · go_wp2_with fail
      refine ⟨⟨1, ?_⟩, by simp [intOf]⟩; simp
    · go_wp2_with fail
      go_ret
      exact ⟨rfl, Below.refl _ _⟩
theorem div64_none (n : Nat) (u v : Value) (w : World) (hn : n < 18446744073709551616) (hu : AbsOf w u n) (hv : AbsOf w v 18446744073709551616) :
    Calls Tryd.prog 59 #[u, v] w fun e w' => (∃ q r, e = .returned (.tuple #[q, r]) ∧ AbsOf w' q 0 ∧ AbsOf w' r n) ∧ Below w.heap.size w w' := by
  have hnb : n < bigTop := by have := bigTop_ge; omega
  have hT := Lib.hid (fun w' (hb : Below w.heap.size w w') => twin_any n u w' hnb (hu.below hb))
  have hC := cmp_any n 18446744073709551616 u v w hnb hu hv
  rw [cmpN_less hn] at hC
  have HC := Lib.hid hC
  clear hC
  obtain ⟨b, cb, rfl, -, -⟩ := hv
  obtain ⟨a, ca, rfl, -, -⟩ := hu
  rw [words64]
  rw [words64] at HC
  rw [show ([0, 0, 1] : List Nat).length = 3 from rfl]
  rw [show ([0, 0, 1] : List Nat).length = 3 from rfl] at HC
  obtain ⟨la, hLA⟩ : ∃ la, la = (wordsN n).length := ⟨_, rfl⟩
  rw [← hLA] at HC hT ⊢
  clear hLA hn hnb
  go_enter Tryd.func59, Tryd.ntmps59
  go_wp2_with ((go_at_call 53; with_reducible refine HC.out.mono ?_; rintro e w1 ⟨rfl, hb1⟩))
  go_wp2_with ((go_at_call 45; with_reducible refine (hT.out _ hb1).mono ?_; rintro e w2 ⟨⟨v', rfl, hv2⟩, hb2⟩))
  have HB := Lib.hid (hb1.trans (hb2.mono hb1.size))
  have HV := Lib.hid hv2
  clear hb1 hb2 hv2
  go_wp2_with fail
  go_ret2
  exact ⟨⟨_, _, rfl, AbsOf.zero _, HV.out⟩, HB.out⟩
set_option maxHeartbeats 8000000 in
theorem div64_big (n : Nat) (u v : Value) (w : World) (hn : 18446744073709551616 ≤ n) (hn2 : n < 340282366920938463463374607431768211456) (hu : AbsOf w u n) (hv : AbsOf w v 18446744073709551616) :
    Calls Tryd.prog 59 #[u, v] w fun e w' => (∃ q r x, e = .returned (.tuple #[q, r]) ∧ AbsOf w' q x ∧ AbsOf w' r (n % 18446744073709551616)) ∧ Below w.heap.size w w' := by
  have hnb : n < bigTop := by have := bigTop_pow (k := 4) (by omega); have e : (4294967296 : Nat) ^ 4 = 340282366920938463463374607431768211456 := by decide
                              omega
  have h64b : 18446744073709551616 < bigTop := by have := bigTop_pow (k := 4) (by omega); have e : (4294967296 : Nat) ^ 4 = 340282366920938463463374607431768211456 := by decide
                                                  omega
  have hC := cmp_any n 18446744073709551616 u v w hnb hu hv
  have hc0 : 0 ≤ cmpN n 18446744073709551616 := by
    rcases Nat.lt_or_eq_of_le hn with h | h
    · rw [cmpN_more h]; decide
    · rw [← h, cmpN_same]; decide
  obtain ⟨cv, hcv⟩ : ∃ cv, cv = cmpN n 18446744073709551616 := ⟨_, rfl⟩
  rw [← hcv] at hC hc0
  have HC := Lib.hid hC
  have hL1 := Lib.hid (fun w' (hb : Below w.heap.size w w') => length64_any v w' (hv.below hb))
  have hL2 := Lib.hid (fun w' (hb : Below w.heap.size w w') => left31_any 18446744073709551616 v w' (by omega) h64b (hv.below hb))
  have hL3 := Lib.hid (fun w' (hb : Below w.heap.size w w') => left31_any n u w' (by omega) hnb (hu.below hb))
  have hla3 : 3 ≤ (wordsN n).length := by have h := wordsN_mono hn; rw [words64] at h; exact h
  have hla4 : (wordsN n).length ≤ 4 := wordsN_lenk 4 (by have e : (4294967296 : Nat) ^ 4 = 340282366920938463463374607431768211456 := by decide
                                                         omega)
  have hlaT : n < 4294967296 ^ (wordsN n).length := by have h := valW_lt _ (wordsN_lt n); rwa [wordsN_val] at h
  obtain ⟨b, cb, rfl, -, -⟩ := hv
  obtain ⟨a, ca, rfl, -, -⟩ := hu
  rw [words64]
  rw [words64] at HC hL1 hL2
  rw [show ([0, 0, 1] : List Nat).length = 3 from rfl]
  rw [show ([0, 0, 1] : List Nat).length = 3 from rfl] at HC hL1 hL2
  obtain ⟨la, hLA⟩ : ∃ la, la = (wordsN n).length := ⟨_, rfl⟩
  rw [← hLA] at HC hL3 hla3 hla4 hlaT ⊢
  have HLT := Lib.hid hlaT
  have HNB := Lib.hid (And.intro hn hn2)
  have t1 : decide (cv < 0) = false := decide_eq_false (by omega)
  have t1' : ¬ (cv < 0) := by omega
  have t2 : decide ((la : Int) ≤ 2) = false := decide_eq_false (by omega)
  have t2' : ¬ ((la : Int) ≤ 2) := by omega
  have t2n : ¬ (la ≤ 2) := by omega
  obtain ⟨l2, hl2⟩ : ∃ l2, l2 = la + 2 := ⟨_, rfl⟩
  obtain ⟨m, hm⟩ : ∃ m, la = m + 2 := ⟨la - 2, by omega⟩
  obtain ⟨m1, hm1⟩ : ∃ m1, m1 = m + 1 := ⟨_, rfl⟩
  obtain ⟨m2, hm2⟩ : ∃ m2, m2 = m + 1 := ⟨_, rfl⟩
  have e1 : (la : Int) + 2 = (l2 : Int) := by omega
  have e2 : (l2 : Int) - 3 = (m1 : Int) := by omega
  have e3 : (m1 : Int) - 1 = (m : Int) := by omega
  have e4 : (m : Int) + 1 = (m2 : Int) := by omega
  have HM := Lib.hid (show la = m + 2 ∧ l2 = m + 4 ∧ m1 = m + 1 ∧ m2 = m + 1 ∧ m ≤ 2 from ⟨hm, by omega, hm1, hm2, by omega⟩)
  have l2b : l2 ≤ 6 := by omega
  have m1b : m1 ≤ 3 := by omega
  have m2b : m2 ≤ 3 := by omega
  have mb : m ≤ 2 := by omega
  clear hLA hn hn2 hnb hcv hC hlaT h64b hm hm1 hm2 hl2
  go_enter Tryd.func59, Tryd.ntmps59
  go_wp2_with ((go_at_call 53; with_reducible refine HC.out.mono ?_; rintro e w1 ⟨rfl, hb1⟩))
  have HB1 := Lib.hid hb1
  clear hb1
  go_wp2_with ((go_at_call 61; with_reducible refine (hL1.out _ HB1.out).mono ?_; rintro e w2 ⟨rfl, hb2⟩))
  have HB2 := Lib.hid (HB1.out.trans (hb2.mono HB1.out.size))
  clear hb2
  go_wp2_with ((go_at_call 32; with_reducible refine (hL2.out _ HB2.out).mono ?_; rintro e w3 ⟨⟨r3, rfl, hr3⟩, hb3⟩))
  have HB3 := Lib.hid (HB2.out.trans (hb3.mono HB2.out.size))
  clear hb3
  obtain ⟨a3, c3, rfl, hs3, -⟩ := hr3
  rw [words95] at hs3 ⊢
  rw [show ([0, 0, 2147483648] : List Nat).length = 3 from rfl]
  have HS3 := Lib.hid hs3
  have hmk := make_words l2 (by have := HM.out; omega) w3
  obtain ⟨w4, hw4⟩ : ∃ w4, w4 = w3.alloc (.cells (zerosW l2) 66) := ⟨_, rfl⟩
  have hR4 : RowL w4 w3.heap.size (List.replicate l2 0) := by rw [hw4]; exact rowL_zeros rfl
  have hB4 : Below w3.heap.size w3 w4 := by rw [hw4]; exact (Below.refl _ _).alloc (Nat.le_refl _) _
  rw [← hw4] at hmk
  have HR4 := Lib.hid hR4
  have HB4 := Lib.hid hB4
  have HB40 := Lib.hid (HB3.out.trans (hB4.mono HB3.out.size))
  clear hw4 hR4 hB4 hs3
  go_wp2_with fail
  simp only [hmk]
  go_wp2_with ((go_at_call 32; with_reducible refine (hL3.out _ HB40.out).mono ?_; rintro e w5 ⟨⟨r5, rfl, hr5⟩, hb5⟩))
  obtain ⟨a5, c5, rfl, hs5, -⟩ := hr5
  have hlt3 := lt_of_block HR4.out
  have hA5 : (wordsN (2147483648 * n)).length ≤ la + 1 := by
    refine wordsN_lenk (la + 1) ?_
    have := HLT.out
    rw [Nat.pow_succ]
    omega
  have hD5 := DivS.start (A := wordsN (2147483648 * n)) rfl HLT.out hla3
  obtain ⟨A, hA⟩ : ∃ A, A = wordsN (2147483648 * n) := ⟨_, rfl⟩
  rw [← hA] at hA5 hs5 hD5 ⊢
  have hR5 : RowL w5 w3.heap.size (List.replicate l2 0) := (hb5.block _ hlt3).trans HR4.out
  obtain ⟨w6, hcp, hR6, hK6⟩ := copyW w5 w3.heap.size l2 A a5 c5 hR5 (by have := HM.out; omega) hs5
  have HB5 := Lib.hid (HB4.out.trans (hb5.mono HB4.out.size))
  have HB6 := Lib.hid (HB5.out.trans (hK6.toBelow (fun i e => by omega) HB5.out.size))
  have hl2m := HM.out
  rw [show la + 2 = l2 from by omega, show la - 1 = m + 1 from by omega] at hD5
  have hU6 : (A ++ List.replicate (l2 - A.length) 0).length = l2 := by rw [List.length_append, List.length_replicate]; omega
  obtain ⟨U6, hU⟩ : ∃ U6, U6 = A ++ List.replicate (l2 - A.length) 0 := ⟨_, rfl⟩
  rw [← hU] at hD5 hR6 hU6
  have HR6 := Lib.hid hR6
  have HD6 := Lib.hid hD5
  have hg6 : w3.heap.size < w6.heap.size := lt_of_block hR6
  clear hA hR5 hR6 hK6 hs5 hb5 hA5 hl2m hD5 hU
  have hmk2 := make_words m2 (by have := HM.out; omega) w6
  clear hmk
  obtain ⟨la5, hla5⟩ : ∃ la5, la5 = A.length := ⟨_, rfl⟩
  rw [← hla5] at hcp ⊢
  obtain ⟨w7, hw7⟩ : ∃ w7, w7 = w6.alloc (.cells (zerosW m2) 66) := ⟨_, rfl⟩
  have hR7 : RowL w7 w6.heap.size (List.replicate m2 0) := by rw [hw7]; exact rowL_zeros rfl
  have hB7 : Below w6.heap.size w6 w7 := by rw [hw7]; exact (Below.refl _ _).alloc (Nat.le_refl _) _
  rw [← hw7] at hmk2
  go_wp2_with fail
  simp only [hcp]
  go_wp2_with fail
  rw [← hw7]
  have HB7 := Lib.hid (HB6.out.trans (hB7.mono (by omega)))
  have HR7 := Lib.hid hR7
  have HRU := Lib.hid (show RowL w7 w3.heap.size U6 from (hB7.block _ hg6).trans HR6.out)
  obtain ⟨p3, o3, rfl, -⟩ := HS3.out.row (by decide)
  have HV := Lib.hid (show ∀ W : World, Below w3.heap.size w3 W → ∀ i x : Nat, ([0, 0, 2147483648] : List Nat)[i]? = some x → W.cell? ⟨p3, o3 + i, none⟩ = some (.int .u32 x) from fun W hb i x hx => by
    obtain ⟨p', o', e, hr⟩ := (HS3.out.below (by omega) hb).row (by decide)
    cases e
    exact hr i _ (by rw [List.getElem?_map, hx]; rfl))
  obtain ⟨g1, hg1⟩ : ∃ g1, g1 = w3.heap.size := ⟨_, rfl⟩
  obtain ⟨g2, hg2⟩ : ∃ g2, g2 = w6.heap.size := ⟨_, rfl⟩
  have HG1 := Lib.hid hg1
  rw [← hg1] at HRU hg6 hcp HV HB7 ⊢
  rw [← hg2] at hg6 hR7 hmk2 HR7 ⊢
  have HGW := Lib.hid (show w.heap.size ≤ g1 from by have := HB3.out.size; omega)
  clear hw7 hR7 hB7 hg1 hg2
  have hv1 : w7.drew.cell? ⟨p3, o3 + 1, none⟩ = some (.int .u32 0) := HV.out w7 HB7.out 1 0 rfl
  have hv2 : w7.drew.cell? ⟨p3, o3 + 2, none⟩ = some (.int .u32 2147483648) := HV.out w7 HB7.out 2 2147483648 rfl
  go_region
  go_wp2_with fail
  have hm2 : m2 = m + 1 := HM.out.2.2.2.1
  have hl2 : l2 = m + 4 := HM.out.2.1
  have HM2 := Lib.hid hm2
  have HL2 := Lib.hid hl2
  have hQ7 : ∀ z ∈ List.replicate m2 0, z < 4294967296 := fun z hz => by rw [(List.mem_replicate.1 hz).2]; omega
  have HQ7 := Lib.hid hQ7
  have HU6 := Lib.hid hU6
  have H3 := Lib.hid (show w3.heap.size = g1 from HG1.out.symm)
  clear hm2 hl2 hQ7 hU6 hmk2 hcp hv1 hv2
  go_loopw [18, 19, 20, 21, 22, 23, 24, 25, 26, 27] (fun jv _ _ _ _ _ _ _ _ _ wr => ∃ (j1 : Nat) (U Q : List Nat), jv = .int .i64 ((j1 : Int) - 1) ∧ j1 ≤ m + 1 ∧ Aside (DivS n U j1) ∧ Aside (U.length = l2) ∧ Aside (Q.length = m2) ∧ Aside (∀ z ∈ Q, z < 4294967296) ∧ Aside (RowL wr g1 U) ∧ Aside (RowL wr g2 Q) ∧ Aside (Below g1 w3 wr)) (fun jv _ _ _ _ _ _ _ _ _ _ => (intOf jv + 1).toNat)
  case atStart => exact ⟨m + 1, U6, List.replicate m2 0, by go_num, Nat.le_refl _, HD6.out, HU6.out, by simp [Aside], HQ7.out, HRU.out, HR7.out, HB7.out.drew⟩
  case round =>
    obtain ⟨j1, U, Q, rfl, hj1, HD, HUL, HQL, HQ, HRU, HRQ, HBw⟩ := hrel
    rcases j1 with _ | j
    · have hval : valW U / 2147483648 = n % 18446744073709551616 := HD.out.ends (by have := HUL.out; have := HL2.out; omega)
      have hub : valW U < bigTop := by
        have h := valW_lt U HD.out.low
        have h2 : (4294967296 : Nat) ^ U.length ≤ bigTop := bigTop_pow (by have := HUL.out; omega)
        omega
      have hTQ := trim_any Q (some ⟨g2, 0, none⟩) Q.length wr (by have := HQL.out; have := HM2.out; omega) HQ.out (sl_fresh (ty := 66) HRQ.out (by have := HQL.out; omega)) (fun b o x hx => by cases hx; exact ⟨_, _, HRQ.out⟩)
      have hTU := trim_any U (some ⟨g1, 0, none⟩) U.length wr (by have := HUL.out; have := HL2.out; omega) HD.out.low (sl_fresh (ty := 66) HRU.out (by have := HUL.out; omega)) (fun b o x hx => by cases hx; exact ⟨_, _, HRU.out⟩)
      rw [HQL.out] at hTQ
      rw [HUL.out] at hTU
      have HTQ := Lib.hid hTQ
      have HTU := Lib.hid hTU
      have HVL := Lib.hid (And.intro hval hub)
      have hz0 : ((0 : Nat) : Int) - 1 = -1 := rfl
      clear hTQ hTU hval hub
      rw [hz0]
      go_wp2_with ((go_at_call 52; first | (with_reducible refine HTQ.out.mono ?_; rintro e wa ⟨⟨vq, rfl, hvq⟩, rfl⟩) | (with_reducible refine HTU.out.mono ?_; rintro e wb ⟨⟨vu, rfl, hvu⟩, rfl⟩)))
      have HVQ := Lib.hid hvq
      have HVU := Lib.hid hvu
      clear hvq hvu
      go_wp2_with ((go_at_call 42; with_reducible refine (right31_any _ _ _ HVL.out.2 HVU.out).mono ?_; rintro e w9 ⟨⟨vr, rfl, hvr⟩, hb9⟩))
      rw [HVL.out.1] at hvr
      have HVR := Lib.hid hvr
      have HB9 := Lib.hid hb9
      clear hvr hb9
      go_wp2_with fail
      go_ret2
      have hBw := HBw.out
      have hBx : Below w.heap.size w wb := HB3.out.trans (hBw.mono HGW.out)
      exact ⟨⟨vq, vr, _, rfl, HVQ.out.below HB9.out, HVR.out⟩, hBx.trans (HB9.out.mono hBx.size)⟩
    · have hj0 : ((j + 1 : Nat) : Int) - 1 = (j : Int) := by omega
      rw [hj0]
      obtain ⟨j2, hj2⟩ : ∃ j2, j2 = j + 2 := ⟨_, rfl⟩
      obtain ⟨j3, hj3⟩ : ∃ j3, j3 = j + 3 := ⟨_, rfl⟩
      obtain ⟨j4, hj4⟩ : ∃ j4, j4 = j + 1 := ⟨_, rfl⟩
      have hlen : U.length = m + 4 := by rw [HUL.out, HL2.out]
      obtain ⟨x, hx⟩ : ∃ x, U[j3]? = some x := ⟨U[j3]'(by omega), by simp⟩
      obtain ⟨y, hy⟩ : ∃ y, U[j2]? = some y := ⟨U[j2]'(by omega), by simp⟩
      obtain ⟨z, hz⟩ : ∃ z, U[j4]? = some z := ⟨U[j4]'(by omega), by simp⟩
      obtain ⟨q0, hq0⟩ : ∃ q0, Q[j]? = some q0 := ⟨Q[j]'(by have := HQL.out; have := HM2.out; omega), by simp⟩
      have hx1 : x < 2147483648 := HD.out.top x (by rw [← hx, hj3])
      have hy1 : y < 4294967296 := HD.out.low y (List.mem_of_getElem? hy)
      have hz1 : z < 4294967296 := HD.out.low z (List.mem_of_getElem? hz)
      have hq1 : q0 < 4294967296 := HQ.out q0 (List.mem_of_getElem? hq0)
      have HN := Lib.hid (HD.out.next (j := j) (by rw [← hx, hj3]) (by rw [← hy, hj2]))
      have hor := or_high x y (by omega) hy1
      obtain ⟨h, hh⟩ : ∃ h, h = x * 4294967296 + y := ⟨_, rfl⟩
      obtain ⟨g, hg⟩ : ∃ g, g = h / 2147483648 := ⟨_, rfl⟩
      obtain ⟨r, hr⟩ : ∃ r, r = h % 2147483648 := ⟨_, rfl⟩
      have hg1 : g < 4294967296 := by omega
      have hr1 : r < 2147483648 := by omega
      have hor2 := or_high r z (by omega) hz1
      obtain ⟨h5, hh5⟩ : ∃ h5, h5 = r * 4294967296 + z := ⟨_, rfl⟩
      have hh1 : h < 9223372036854775808 := by omega
      have hh51 : h5 < 9223372036854775808 := by omega
      rw [← hh] at hor
      rw [← hh5] at hor2
      have HINN := Lib.hid (fun ii (hii : ii < 3) => div_inner (U := U) (j := j) (x := x) (y := y) (g := g) (ii := ii) (by rw [← hy, hj2]) hx1 hy1 (by rw [hg, hh]) HD.out.low hii)
      have hgI : (h : Int) / 2147483648 = (g : Int) := by omega
      have hrI : (h : Int) % 2147483648 = (r : Int) := by omega
      have HRI := Lib.hid hrI
      have hj3I : (j : Int) + 3 = (j3 : Int) := by omega
      have hj2I : (j3 : Int) - 1 = (j2 : Int) := by omega
      have hj4I : (j3 : Int) - 2 = (j4 : Int) := by omega
      have b2 : (j2 : Int) < (l2 : Int) := by have := HL2.out; omega
      have b3 : (j3 : Int) < (l2 : Int) := by have := HL2.out; omega
      have b4 : (j4 : Int) < (l2 : Int) := by have := HL2.out; omega
      have b2n : j2 < l2 := by omega
      have b3n : j3 < l2 := by omega
      have b4n : j4 < l2 := by omega
      have p2 : (0 : Int) ≤ (j2 : Int) := by omega
      have p3' : (0 : Int) ≤ (j3 : Int) := by omega
      have p4 : (0 : Int) ≤ (j4 : Int) := by omega
      have hge : decide ((j : Int) ≥ 0) = true := decide_eq_true (by omega)
      have hge' : decide (0 ≤ (j : Int)) = true := decide_eq_true (by omega)
      have ng : ¬ (4294967295 < (g : Int)) := by omega
      have ng' : decide ((4294967295 : Int) < (g : Int)) = false := decide_eq_false ng
      have ng2 : decide ((g : Int) > 4294967295) = false := decide_eq_false ng
      have nh : ¬ ((h5 : Int) < 0) := by omega
      have nh' : decide ((h5 : Int) < 0) = false := decide_eq_false nh
      have hcx : wr.drew.cell? ⟨g1, j3, none⟩ = some (.int .u32 x) := HRU.out.cell hx
      have hcy : wr.drew.cell? ⟨g1, j2, none⟩ = some (.int .u32 y) := HRU.out.cell hy
      have hcz : wr.drew.drew.cell? ⟨g1, j4, none⟩ = some (.int .u32 z) := HRU.out.cell hz
      have HXX := Lib.hid (And.intro hx (And.intro hq0 (And.intro hj2 hj3)))
      clear hx hy hz hq0 hj2 hj3 hj4 hh hh5 hg hr hj0 hlen
      go_wp2_with fail
      go_region
      go_wp2_with fail
      go_region
      go_wp2_with fail
      have HRU2 := Lib.hid (show RowL wr.drew.drew g1 U from HRU.out)
      have HRQ2 := Lib.hid (show RowL wr.drew.drew g2 Q from HRQ.out)
      have HBw2 := Lib.hid (show Below g1 w3 wr.drew.drew from (HBw.out.drew).drew)
      clear hcx hcy HRU HRQ HBw
      obtain ⟨W2, hW2⟩ : ∃ W2, W2 = wr.drew.drew := ⟨_, rfl⟩
      rw [← hW2] at HRU2 HRQ2 HBw2 hcz ⊢
      clear hW2
      go_loopw [20, 21] (fun gv rv wr => gv = .int .u64 (g : Int) ∧ rv = .int .u64 (r : Int) ∧ wr = W2) (fun _ _ _ => 0)
      case atStart => exact ⟨rfl, by rw [HRI.out], rfl⟩
      case round =>
        obtain ⟨rfl, rfl, rfl⟩ := hrel
        go_wp2_with fail
        go_loopw [22, 23, 24, 25] (fun c d i _ wr => ∃ (ii cc : Nat) (R : List Nat), c = .int .u64 (cc : Int) ∧ d = .int .u64 0 ∧ i = .int .i64 (ii : Int) ∧ ii ≤ 3 ∧ Aside ((ii < 3 → cc = 0 ∧ R = U) ∧ (ii = 3 → cc = x ∧ R = U.set (j + 2) (y % 2147483648))) ∧ Aside (RowL wr g1 R) ∧ Aside (RowL wr g2 Q) ∧ Aside (Below g1 w3 wr)) (fun _ _ i _ _ => 3 - (intOf i).toNat)
        case atStart => exact ⟨0, 0, U, rfl, rfl, rfl, by omega, ⟨fun _ => ⟨rfl, rfl⟩, fun h => absurd h (by omega)⟩, HRU2.out, HRQ2.out, HBw2.out⟩
        case round =>
          obtain ⟨ii, cc, R, rfl, rfl, rfl, hii, HCC, HRU, HRQ, HBw⟩ := hrel
          by_cases hi3 : ii < 3
          · obtain ⟨h1, h2⟩ := HCC.out.1 hi3
            rw [h1, show ((0 : Nat) : Int) = 0 from rfl]
            rw [h2] at HRU
            clear HCC h1 h2
            obtain ⟨vv, p, lo, hi, zi, zn, hvv, hp, hp1, hlo, hhi, hzi, hzi1, hzn, hA, hB⟩ := HINN.out ii hi3
            have hvv1 : vv < 4294967296 := by
              have := List.mem_of_getElem? hvv
              simp at this
              omega
            obtain ⟨ix, hix⟩ : ∃ ix, ix = ii + j := ⟨_, rfl⟩
            rw [← hix] at hzi hA hB
            have hixl : ix < l2 := by have := (List.getElem?_eq_some_iff.1 hzi).1; have := HUL.out; omega
            have hcv : wr.cell? ⟨p3, o3 + ii, none⟩ = some (.int .u32 vv) := HV.out wr HBw.out ii vv hvv
            have hcz' : wr.cell? ⟨g1, ix, none⟩ = some (.int .u32 zi) := HRU.out.cell hzi
            have fr : wr.frozen? ⟨g1, ix, none⟩ = false := Joins.unfrozen_of_block HRU.out ix
            have HS1 := Lib.hid (RowL.set (w := wr) HRU.out ix zn)
            have HS2 := Lib.hid (show RowL (wr.setCell ⟨g1, ix, none⟩ (u32V zn)) g2 Q from blk_set HRQ.out (a := ⟨g1, ix, none⟩) (by show g2 ≠ g1; omega) _)
            have HS3 := Lib.hid (HBw.out.setCell (p := ⟨g1, ix, none⟩) (Nat.le_refl _) (u32V zn))
            have HCN := Lib.hid (And.intro hA hB)
            have hpI : (g : Int) * (vv : Int) = (p : Int) := by rw [hp]; simp
            have hloI : (p : Int) % 4294967296 = (lo : Int) := by omega
            have hhiI : (p : Int) / 4294967296 = (hi : Int) := by omega
            have hznI : (zi : Int) - (lo : Int) = (zn : Int) := by omega
            have hzn63 : (zn : Int) / 9223372036854775808 = 0 := by omega
            have hznm : (zn : Int) % 4294967296 = (zn : Int) := by omega
            have hzn1 : zn < 4294967296 := by omega
            have hlo1 : lo < 4294967296 := by omega
            have hixI : (ii : Int) + (j : Int) = (ix : Int) := by omega
            have hixJ : (ix : Int) < (l2 : Int) := by omega
            have hixK : (0 : Int) ≤ (ix : Int) := by omega
            have hiI : (ii : Int) < 3 := by omega
            have hiJ : (0 : Int) ≤ (ii : Int) := by omega
            clear hvv hp hlo hhi hzi hzn hA hB hix HRU HRQ HBw
            go_wp2_with fail
            exact ⟨⟨ii + 1, hi, _, rfl, by first | rfl | rw [hzn63], by go_num, by omega, HCN.out, HS1.out, HS2.out, HS3.out⟩, by simp [intOf]; omega⟩
          · obtain rfl : ii = 3 := by omega
            obtain ⟨h1, h2⟩ := HCC.out.2 rfl
            rw [h1, show ((3 : Nat) : Int) = 3 from rfl]
            rw [h2] at HRU
            clear HCC h1 h2
            obtain ⟨hx, hq0, hj2, hj3⟩ := HXX.out
            have hjm : j < m2 := by have := HM2.out; omega
            have hjmI : (j : Int) < (m2 : Int) := by omega
            have hjI0 : (0 : Int) ≤ (j : Int) := by omega
            have hcx : wr.cell? ⟨g1, j3, none⟩ = some (.int .u32 x) := HRU.out.cell (by rw [List.getElem?_set_ne (by omega)]; exact hx)
            have fr : wr.frozen? ⟨g1, j3, none⟩ = false := Joins.unfrozen_of_block HRU.out j3
            have hcq : wr.cell? ⟨g2, j, none⟩ = some (.int .u32 q0) := HRQ.out.cell hq0
            have fr2 : wr.frozen? ⟨g2, j, none⟩ = false := Joins.unfrozen_of_block HRQ.out j
            have hn12 : g1 ≠ g2 := by omega
            have hn21 : g2 ≠ g1 := by omega
            have hR1 := RowL.set (w := wr) HRU.out j3 0
            have hR2 : RowL (wr.setCell ⟨g1, j3, none⟩ (u32V 0)) g2 Q := blk_set HRQ.out (a := ⟨g1, j3, none⟩) (by show g2 ≠ g1; omega) _
            have HS1 := Lib.hid (show RowL ((wr.setCell ⟨g1, j3, none⟩ (u32V 0)).setCell ⟨g2, j, none⟩ (u32V g)) g1 _ from blk_set hR1 (a := ⟨g2, j, none⟩) (by show g1 ≠ g2; omega) _)
            have HS2 := Lib.hid (RowL.set hR2 j g)
            have HS3 := Lib.hid ((HBw.out.setCell (p := ⟨g1, j3, none⟩) (Nat.le_refl _) (u32V 0)).setCell (p := ⟨g2, j, none⟩) (by show g1 ≤ g2; omega) (u32V g))
            rw [hj3] at HS1
            have HJ3 := Lib.hid hj3
            have hgm : (g : Int) % 4294967296 = (g : Int) := by omega
            have HQS := Lib.hid (low_set HQ.out hg1 (i := j))
            clear hR1 hR2 hx hq0 hj2 hj3 HRU HRQ HBw
            go_wp2_with fail
            exact ⟨⟨j, _, _, rfl, by omega, HN.out, by show List.length _ = _; rw [List.length_set, List.length_set]; exact HUL.out, by show List.length _ = _; rw [List.length_set]; exact HQL.out, HQS.out, by have := HS1.out; rw [← HJ3.out] at this ⊢; exact this, HS2.out, HS3.out⟩, by simp [intOf]⟩
theorem div64_any (n : Nat) (u v : Value) (w : World) (hn2 : n < 340282366920938463463374607431768211456) (hu : AbsOf w u n) (hv : AbsOf w v 18446744073709551616) :
    Calls Tryd.prog 59 #[u, v] w fun e w' => (∃ q r x, e = .returned (.tuple #[q, r]) ∧ AbsOf w' q x ∧ (n < 18446744073709551616 → x = 0) ∧ AbsOf w' r (n % 18446744073709551616)) ∧ Below w.heap.size w w' := by
  by_cases h : n < 18446744073709551616
  · rw [Nat.mod_eq_of_lt h]
    exact (div64_none n u v w h hu hv).mono fun e w' ⟨⟨q, r, h1, h2, h3⟩, h4⟩ => ⟨⟨q, r, 0, h1, h2, fun _ => rfl, h3⟩, h4⟩
  · exact (div64_big n u v w (by omega) hn2 hu hv).mono fun e w' ⟨⟨q, r, x, h1, h2, h3⟩, h4⟩ => ⟨⟨q, r, x, h1, h2, fun h5 => absurd h5 h, h3⟩, h4⟩
end Go.Proofs.YtjbkfkgdpbjliaaDoor
