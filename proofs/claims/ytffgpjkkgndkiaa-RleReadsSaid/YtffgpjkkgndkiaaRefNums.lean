/-
  The document's digit, digitsAt, plain and starts.
-/
import Derived.Test.YtffgpjkkgndkiaaNumbers
import Derived.Test.YtffgpjkkgndkiaaBigRead
import Derived.Test.YtffgpjkkgndkiaaStrs
namespace Go.Proofs.Ytffgpjkkgndkiaa
set_option maxRecDepth 100000
open Go.RowKit

theorem digit_any (c : UInt8) (w : World) : Calls Try.prog 55 #[.int .u8 c.toNat] w fun e w' => e = .returned (.bool (isD c)) ∧ w' = w := by
  obtain ⟨y, hy⟩ : ∃ y, y = c.toNat := ⟨_, rfl⟩
  have h : isD c = (decide (48 ≤ y) && decide (y ≤ 57)) := by rw [isD, hy]
  have hlt : y < 256 := by rw [hy]; exact UInt8.toNat_lt _
  rw [h, ← hy]
  clear h hy
  rcases (show y < 48 ∨ (48 ≤ y ∧ y ≤ 57) ∨ (48 ≤ y ∧ 57 < y) by omega) with h1 | ⟨h1, h2⟩ | ⟨h1, h2⟩
  all_goals
    go_enter Try.func55, Try.ntmps55
    go_wp2_with fail
    go_ret
    refine ⟨?_, rfl⟩
    have k1 : decide ((y : Int) ≤ 57) = decide (y ≤ 57) := decide_eq_decide.2 (by omega)
    first
      | (have k2 : decide (48 ≤ y) = true := decide_eq_true (by omega)
         simp [k1, k2]; done)
      | (have k2 : decide (48 ≤ y) = false := decide_eq_false (by omega)
         simp [k2]; done)
      | simp [k1, h1]
      | simp [h1]
theorem drop_nth (l : List UInt8) (a k : Nat) : (l.drop a)[k]? = l[a + k]? := by rw [List.getElem?_drop]
set_option maxHeartbeats 1000000 in
theorem digitsAt_any (l : List UInt8) (a : Nat) (w : World) (hl : l.length ≤ 140737488351232) (ha : a ≤ l.length) :
    Calls Try.prog 106 #[.string (txt l), .int .i64 a] w fun e w' => e = .returned (.int .i64 (digs (l.drop a) : Nat)) ∧ w' = w := by
  obtain ⟨S, hS⟩ : ∃ S, S = txt l := ⟨_, rfl⟩
  have hsz : S.size = l.length := by rw [hS, txt_size]
  have hdl := digs_le (l.drop a)
  rw [List.length_drop] at hdl
  obtain ⟨n, hn⟩ : ∃ n, n = l.length := ⟨_, rfl⟩
  rw [← hn] at hsz hl ha hdl
  have HN := Lib.hid hn
  have HS := Lib.hid hS
  rw [← hS]
  obtain ⟨D, hD⟩ : ∃ D, D = digs (l.drop a) := ⟨_, rfl⟩
  rw [← hD] at hdl ⊢
  have HD := Lib.hid hD
  clear hS hn hD
  go_enter Try.func106, Try.ntmps106
  go_wp2_with fail
  go_loopw [5] (fun i wr => ∃ k : Nat, i = .int .i64 k ∧ k ≤ D ∧ wr = w) (fun i _ => D - (intOf i).toNat)
  case atStart => exact ⟨0, rfl, Nat.zero_le _, rfl⟩
  case round =>
    obtain ⟨k, rfl, hk, hw⟩ := hrel
    subst hw
    by_cases hkn : a + k < n
    · have hks : a + k < S.size := by omega
      obtain ⟨c, hc⟩ : ∃ c, l[a + k]? = some c := ⟨_, List.getElem?_eq_getElem (by have := HN.out; omega)⟩
      have hg : S[a + k].toNat = c.toNat := by have h := HS.out; subst h; exact txt_get hc hks
      have hc2 : (l.drop a)[k]? = some c := by rw [drop_nth]; exact hc
      have hI : (0 : Int) ≤ (a : Int) + (k : Int) := by omega
      have hlt : (a : Int) + (k : Int) < (n : Int) := by omega
      have hdk : decide ((a : Int) + (k : Int) < (n : Int)) = true := decide_eq_true hlt
      cases hd : isD c
      · have hend : D = k := by rw [HD.out]; exact digs_stop (by rw [← HD.out]; exact hk) (.inr ⟨c, hc2, hd⟩)
        have HE := Lib.hid hend
        have HC := Lib.hid (digit_any c)
        rw [hd] at HC
        obtain ⟨y, hy⟩ : ∃ y, y = c.toNat := ⟨_, rfl⟩
        rw [← hy] at hg HC
        clear hc hc2 hd hy hend
        go_wp2_with fail
        refine (HC.out _).mono ?_
        rintro e w' ⟨rfl, rfl⟩
        go_wp2_with fail
        go_ret
        exact ⟨by rw [HE.out]; rfl, rfl⟩
      · have hkD := digs_next (by rw [← HD.out]; exact hk) hc2 hd
        rw [← HD.out] at hkD
        have HC := Lib.hid (digit_any c)
        rw [hd] at HC
        obtain ⟨y, hy⟩ : ∃ y, y = c.toNat := ⟨_, rfl⟩
        rw [← hy] at hg HC
        clear hc hc2 hd hy
        go_wp2_with fail
        refine (HC.out _).mono ?_
        rintro e w' ⟨rfl, rfl⟩
        go_wp2_with fail
        exact ⟨⟨k + 1, by go_num, hkD, by first | rfl | trivial⟩, by simp [intOf]; omega⟩
    · have hend : D = k := by rw [HD.out]; exact digs_stop (by rw [← HD.out]; exact hk) (.inl (by rw [List.length_drop]; have := HN.out; omega))
      have HE := Lib.hid hend
      have hlt : (n : Int) ≤ (a : Int) + (k : Int) := by omega
      have hdk : decide ((a : Int) + (k : Int) < (n : Int)) = false := decide_eq_false (by omega)
      clear hend
      go_wp2_with fail
      go_ret
      exact ⟨by rw [HE.out]; rfl, rfl⟩
theorem okN_iff {l : List UInt8} : okN l = true ↔ 1 ≤ digs l ∧ digs l ≤ 12 ∧ (digs l = 1 ∨ l.head? ≠ some 48) := by
  unfold okN
  simp only [Bool.and_eq_true, Bool.or_eq_true, decide_eq_true_eq]
  constructor
  · rintro ⟨⟨h1, h2⟩, h3⟩; exact ⟨by omega, by omega, h3⟩
  · rintro ⟨h1, h2, h3⟩; exact ⟨⟨by omega, by omega⟩, h3⟩
def plainF (l : List UInt8) (a : Nat) : Nat × Int := if okN (l.drop a) = true then (decV ((l.drop a).take (digs (l.drop a))), ((a + digs (l.drop a) : Nat) : Int)) else (0, -1)
set_option maxHeartbeats 4000000 in
theorem plain_any (l : List UInt8) (a : Nat) (w : World) (hl : l.length ≤ 140737488351232) (ha : a ≤ l.length) :
    Calls Try.prog 56 #[.string (txt l), .int .i64 a] w fun e w' => e = .returned (.tuple #[.int .i64 (plainF l a).1, .int .i64 (plainF l a).2]) ∧ Below w.heap.size w w' := by
  have HDA := Lib.hid (digitsAt_any l a w hl ha)
  obtain ⟨S, hS⟩ : ∃ S, S = txt l := ⟨_, rfl⟩
  have hsz : S.size = l.length := by rw [hS, txt_size]
  have hdl := digs_le (l.drop a)
  rw [List.length_drop] at hdl
  have hdn := digs_all (l.drop a)
  obtain ⟨D, hD⟩ : ∃ D, D = digs (l.drop a) := ⟨_, rfl⟩
  rw [← hD] at HDA hdl hdn
  rw [← hS] at HDA ⊢
  have hok : okN (l.drop a) = true ↔ 1 ≤ D ∧ D ≤ 12 ∧ (D = 1 ∨ (l.drop a).head? ≠ some 48) := by rw [okN_iff, ← hD]
  have hx : ∀ j, S.extract a j = txt ((l.take j).drop a) := fun j => by rw [hS, extract_list]
  by_cases hin : 1 ≤ D ∧ D ≤ 12
  · obtain ⟨c, hc⟩ : ∃ c, l[a]? = some c := ⟨_, List.getElem?_eq_getElem (by omega)⟩
    have has : a < S.size := by omega
    have hg : S[a].toNat = c.toNat := by subst hS; exact txt_get hc has
    have hh : (l.drop a).head? = some c := by rw [List.head?_drop]; exact hc
    obtain ⟨y, hy⟩ : ∃ y, y = c.toNat := ⟨_, rfl⟩
    have hyc : y = 48 ↔ c = 48 := by
      rw [hy]
      exact ⟨fun h => UInt8.toNat_inj.1 (by rw [h]; rfl), fun h => by rw [h]; rfl⟩
    have hylt : y < 256 := by rw [hy]; exact UInt8.toNat_lt _
    rw [← hy] at hg
    obtain ⟨n, hn⟩ : ∃ n, n = l.length := ⟨_, rfl⟩
    rw [← hn] at hsz hl ha hdl
    by_cases hbad : 1 < D ∧ y = 48
    · have hf : plainF l a = (0, -1) := by
        rw [plainF, if_neg]
        rw [hok, hh]
        rintro ⟨_, _, h | h⟩
        · omega
        · exact h (by rw [hyc.1 hbad.2])
      have HF := Lib.hid hf
      obtain ⟨h1, h48⟩ := hbad
      have t0 : decide ((D : Int) < 1) = false := decide_eq_false (by omega)
      have t1 : decide ((12 : Int) < (D : Int)) = false := decide_eq_false (by omega)
      have t2 : decide ((1 : Int) < (D : Int)) = true := decide_eq_true (by omega)
      have t3 : ((y : Int) == 48) = true := by rw [h48]; rfl
      obtain ⟨hD1, hD12⟩ := hin
      clear hS hD hc hh hyc hy hn hok hx hdn hf
      go_enter Try.func56, Try.ntmps56
      go_wp2_with fail
      refine HDA.out.mono ?_
      rintro e w' ⟨rfl, rfl⟩
      go_wp2_with fail
      refine bodyPost_ret (v := .tuple #[.int .i64 0, .int .i64 (-1)]) (by simp [results, Try.results56, go_sem]) rfl ⟨by rw [HF.out]; rfl, Below.refl _ _⟩
    · have hf : plainF l a = (decV ((l.drop a).take D), ((a + D : Nat) : Int)) := by
        rw [plainF, ← hD, if_pos]
        rw [hok, hh]
        refine ⟨hin.1, hin.2, ?_⟩
        by_cases h1 : D = 1
        · exact .inl h1
        · refine .inr fun h => hbad ⟨by omega, hyc.2 (Option.some.inj h)⟩
      have hxd : S.extract a (a + D) = txt ((l.drop a).take D) := by
        rw [hx]
        congr 1
        rw [List.drop_take, Nat.add_sub_cancel_left]
      have hlen : ((l.drop a).take D).length = D := by rw [List.length_take, List.length_drop]; omega
      have hv := decV_lt ((l.drop a).take D) hdn D (by omega)
      rw [List.take_take, Nat.min_self] at hv
      have hv2 : decV ((l.drop a).take D) < 1000000000000 := Nat.lt_of_lt_of_le hv (by
        have : 10 ^ D ≤ 10 ^ 12 := Nat.pow_le_pow_right (by omega) hin.2
        exact this)
      obtain ⟨T, hT⟩ : ∃ T, T = txt ((l.drop a).take D) := ⟨_, rfl⟩
      have hss := fun p W (hp : BigBlk W p) => setString_any p ((l.drop a).take D) W hp hdn (by omega) (by omega)
      obtain ⟨v, hve⟩ : ∃ v, v = decV ((l.drop a).take D) := ⟨_, rfl⟩
      rw [← hve] at hf hss hv2
      rw [← hT] at hxd hss
      have HSS := Lib.hid hss
      have HF := Lib.hid hf
      have hb0 : (w.alloc (.cells #[.bool false, .slice none 0 0] 97)).heap[w.heap.size]? = some (.cells #[.bool false, .slice none 0 0] 97 (0, 0)) := blk_last w _ rfl
      have HB0 := Lib.hid (show BigBlk (w.alloc (.cells #[.bool false, .slice none 0 0] 97)) w.heap.size from ⟨false, none, 0, 0, hb0⟩)
      have w1 : (0 : Int) ≤ (a : Int) + (D : Int) := by omega
      have w2 : (a : Int) + (D : Int) ≤ (n : Int) := by omega
      have t0 : decide ((D : Int) < 1) = false := decide_eq_false (by omega)
      have t1 : decide ((12 : Int) < (D : Int)) = false := decide_eq_false (by omega)
      obtain ⟨hD1, hD12⟩ := hin
      have hcase : (D = 1) ∨ (1 < D ∧ y ≠ 48) := by
        by_cases h1 : D = 1
        · exact .inl h1
        · exact .inr ⟨by omega, fun h => hbad ⟨by omega, h⟩⟩
      clear hS hD hc hh hyc hy hn hok hx hdn hf hbad hlen hv hT hss hve hb0
      have hguard : (decide ((1 : Int) < (D : Int)) = false) ∨ (decide ((1 : Int) < (D : Int)) = true ∧ ((y : Int) == 48) = false) := by
        rcases hcase with h | ⟨h1, h2⟩
        · exact .inl (decide_eq_false (by omega))
        · exact .inr ⟨decide_eq_true (by omega), by simp <;> omega⟩
      clear hcase
      rcases hguard with t2 | ⟨t2, t3⟩
      all_goals
        go_enter Try.func56, Try.ntmps56
        go_wp2_with fail
        refine HDA.out.mono ?_
        rintro e w' ⟨rfl, rfl⟩
        go_wp2_with fail
        refine (HSS.out _ _ HB0.out).mono ?_
        rintro e w2 ⟨rfl, hb2, hk2⟩
        have HI := Lib.hid (int64_any _ v w2 hb2 (by omega))
        have HB := Lib.hid (((Below.refl _ _).alloc (Nat.le_refl _) (.cells #[.bool false, .slice none 0 0] 97)).trans (hk2.toBelow (fun i h => by rw [h]; exact Nat.le_refl _) (by simp)))
        clear hb2 hk2
        go_wp2_with fail
        refine HI.out.mono ?_
        rintro e w3 ⟨rfl, rfl⟩
        go_wp2_with fail
        refine bodyPost_ret (v := .tuple #[.int .i64 v, .int .i64 ((a : Int) + (D : Int))]) (by simp [results, Try.results56, go_sem]) rfl ⟨by rw [HF.out]; rfl, HB.out⟩
  · have hf : plainF l a = (0, -1) := by
      rw [plainF, if_neg]
      rw [hok]
      rintro ⟨h1, h2, _⟩
      exact hin ⟨h1, h2⟩
    have HF := Lib.hid hf
    clear hS hD hok hx hdn hf
    rcases (show D < 1 ∨ (1 ≤ D ∧ 12 < D) by omega) with h | ⟨h0, h⟩ <;> clear hin
    all_goals
      go_enter Try.func56, Try.ntmps56
      go_wp2_with fail
      refine HDA.out.mono ?_
      rintro e w' ⟨rfl, rfl⟩
      go_wp2_with fail
      refine bodyPost_ret (v := .tuple #[.int .i64 0, .int .i64 (-1)]) (by simp [results, Try.results56, go_sem]) rfl ⟨by rw [HF.out]; rfl, Below.refl _ _⟩
end Go.Proofs.Ytffgpjkkgndkiaa
