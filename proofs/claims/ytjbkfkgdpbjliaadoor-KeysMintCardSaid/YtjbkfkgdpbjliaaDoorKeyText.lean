/-
  The document's text of a key.
-/
import Derived.Test.YtjbkfkgdpbjliaaDoorFold
import Derived.Test.YtjbkfkgdpbjliaaDoorKeyHex
import Derived.Test.YtjbkfkgdpbjliaaDoorMix
import Derived.Test.YtjbkfkgdpbjliaaDoorBigDigits
namespace Go.Proofs.YtjbkfkgdpbjliaaDoor
set_option maxRecDepth 100000
open Go.RowKit

theorem newIntI_any (d : Int) (w : World) (hd : -9223372036854775808 ≤ d ∧ d ≤ 9223372036854775807) :
    Calls Tryd.prog 15 #[.int .i64 d] w fun e w' => e = .returned (.pointer (some ⟨w.heap.size, 0, none⟩)) ∧ BigI w' w.heap.size d ∧ Below w.heap.size w w' := by
  by_cases h : d < 0
  · obtain ⟨n, rfl⟩ : ∃ n : Nat, d = -(n : Int) := ⟨d.natAbs, by omega⟩
    refine (newInt_neg n w (by omega) (by omega)).mono ?_
    rintro e w' ⟨h1, h2, h3⟩
    exact ⟨h1, h2.int (by omega), h3⟩
  · obtain ⟨n, rfl⟩ : ∃ n : Nat, d = n := ⟨d.natAbs, by omega⟩
    refine (newInt_any n w (by omega)).mono ?_
    rintro e w' ⟨h1, h2, h3⟩
    exact ⟨h1, h2.int, h3⟩
/-- The variables m and z of the document's KeyText. -/
structure KI (w W : World) (mb c z : Nat) (i : Int) : Prop where
  below : Below w.heap.size w W
  box : W.heap[c]? = some (.cells #[.pointer (some ⟨z, 0, none⟩)] 39 (0, 0))
  num : BigI W z i
  mod : BigAt W mb 18446744073709551616
  hc : w.heap.size ≤ c
  hz : w.heap.size ≤ z
  ne : mb ≠ z
theorem KI.cell {w W : World} {mb c z : Nat} {i : Int} (h : KI w W mb c z i) : W.cell? ⟨c, 0, none⟩ = some (.pointer (some ⟨z, 0, none⟩)) := Joins.cell_of_block h.box 0
theorem KI.free {w W : World} {mb c z : Nat} {i : Int} (h : KI w W mb c z i) : W.frozen? ⟨c, 0, none⟩ = false := Joins.unfrozen_of_block h.box 0
theorem KI.cne {w W : World} {mb c z : Nat} {i : Int} (h : KI w W mb c z i) : c ≠ z ∧ c ≠ mb := by
  constructor
  · intro e
    obtain ⟨_, _, _, _, hb⟩ := h.num.blk
    have := h.box
    rw [e, hb] at this
    simp at this
  · intro e
    obtain ⟨_, _, _, _, hb⟩ := h.mod.blk
    have := h.box
    rw [e, hb] at this
    simp at this
theorem KI.up {w W W' : World} {mb c z : Nat} {i : Int} (h : KI w W mb c z i) (hb : Below W.heap.size W W') : KI w W' mb c z i :=
  ⟨h.below.trans (hb.mono h.below.size), (hb.block c (lt_of_block h.box)).trans h.box, h.num.below hb, h.mod.below hb, h.hc, h.hz, h.ne⟩
/-- Behind a method that writes z's number. -/
theorem KI.put {w W W' : World} {mb c z : Nat} {i j : Int} (h : KI w W mb c z i) (hj : BigI W' z j) (hk : Keeps (fun i => i = z) W W') : KI w W' mb c z j :=
  ⟨h.below.trans (hk.toBelow (fun i e => by rw [e]; exact h.hz) h.below.size), (hk.block c (lt_of_block h.box) h.cne.1).trans h.box, hj, h.mod.keep h.num.blk h.ne hk, h.hc, h.hz, h.ne⟩
/-- Behind what changes z itself. -/
theorem KI.set {w W W' : World} {mb c z g n : Nat} {i : Int} (h : KI w W mb c z i) (hg : W.heap.size ≤ g) (hz : ZAt W' c g n) (hk : Keeps (fun i => i = c) W W') : KI w W' mb c g n := by
  have hm : mb < W.heap.size := h.mod.lt
  have hcm : BigAt W' mb 18446744073709551616 := by
    obtain ⟨v, hb, ha⟩ := h.mod
    refine ⟨v, (hk.block mb hm (Ne.symm h.cne.2)).trans hb, ha.keepT fun b arr fr hbb => hk.block b (lt_of_block hbb) ?_⟩
    intro e
    rw [e, h.box] at hbb
    simp at hbb
  have := h.below.size
  exact ⟨h.below.trans (hk.toBelow (fun i e => by rw [e]; exact h.hc) h.below.size), hz.1, hz.2.int, hcm, h.hc, by omega, by omega⟩
theorem KI.zat {w W : World} {mb c z n : Nat} {i : Int} (h : KI w W mb c z i) (hi : i = n) : ZAt W c z n := by
  subst hi
  exact ⟨h.box, by have := h.num.pos (by omega); simpa using this⟩
/-- Behind a store of a new number's pointer. -/
theorem KI.store {w W : World} {mb c z g n : Nat} {i : Int} (h : KI w W mb c z i) (hg : BigAt W g n) (h1 : w.heap.size ≤ g) (h2 : mb ≠ g) : KI w (W.setCell ⟨c, 0, none⟩ (.pointer (some ⟨g, 0, none⟩))) mb c g n := by
  have hk : Keeps (fun i => i = c) W (W.setCell ⟨c, 0, none⟩ (.pointer (some ⟨g, 0, none⟩))) := Keeps.setCell (F := fun i => i = c) (Keeps.refl _ _) (p := ⟨c, 0, none⟩) (fun _ => rfl) _
  have hno : ∀ {q m : Nat}, BigAt W q m → BigAt (W.setCell ⟨c, 0, none⟩ (.pointer (some ⟨g, 0, none⟩))) q m := fun {q m} hq => by
    obtain ⟨v, hb, ha⟩ := hq
    refine ⟨v, (hk.block q (lt_of_block hb) (fun e => ?_)).trans hb, ha.keepT fun b arr fr hbb => hk.block b (lt_of_block hbb) ?_⟩
    · rw [e, h.box] at hb
      simp at hb
    · intro e
      rw [e, h.box] at hbb
      simp at hbb
  refine ⟨h.below.trans (hk.toBelow (fun i e => by rw [e]; exact h.hc) h.below.size), ?_, (hno hg).int, hno h.mod, h.hc, h1, h2⟩
  have := Joins.block_setCell (i := 0) h.box (.pointer (some ⟨g, 0, none⟩))
  simpa using this
theorem fold30_any (w W : World) (mb c z n : Nat) (h : KI w W mb c z n) (hn : n < 18446744073709551616) :
    Calls Tryd.prog 21 #[.int .u64 30, .pointer (some ⟨c, 0, none⟩)] W fun e w' => e = .returned (.tuple #[]) ∧ ∃ g, KI w w' mb c g ((n ^^^ (n / 1073741824) : Nat) : Int) := by
  have ht := top_two
  refine (fold_gen c z n 30 (n / 1073741824) W (h.zat rfl) hn (Nat.div_le_self _ _) fun W' g hb hz => bigRsh30_any g z n W' hb hz (by omega)).mono ?_
  rintro e w' ⟨h1, ⟨g, hg, h2⟩, h3⟩
  exact ⟨h1, g, h.set hg h2 h3⟩
theorem fold27_any (w W : World) (mb c z n : Nat) (h : KI w W mb c z n) (hn : n < 18446744073709551616) :
    Calls Tryd.prog 21 #[.int .u64 27, .pointer (some ⟨c, 0, none⟩)] W fun e w' => e = .returned (.tuple #[]) ∧ ∃ g, KI w w' mb c g ((n ^^^ (n / 134217728) : Nat) : Int) := by
  have ht := top_two
  refine (fold_gen c z n 27 (n / 134217728) W (h.zat rfl) hn (Nat.div_le_self _ _) fun W' g hb hz => bigRsh27_any g z n W' hb hz (by omega)).mono ?_
  rintro e w' ⟨h1, ⟨g, hg, h2⟩, h3⟩
  exact ⟨h1, g, h.set hg h2 h3⟩
theorem fold31_any (w W : World) (mb c z n : Nat) (h : KI w W mb c z n) (hn : n < 18446744073709551616) :
    Calls Tryd.prog 21 #[.int .u64 31, .pointer (some ⟨c, 0, none⟩)] W fun e w' => e = .returned (.tuple #[]) ∧ ∃ g, KI w w' mb c g ((n ^^^ (n / 2147483648) : Nat) : Int) := by
  have ht := top_two
  refine (fold_gen c z n 31 (n / 2147483648) W (h.zat rfl) hn (Nat.div_le_self _ _) fun W' g hb hz => bigRsh31_any g z n W' hb hz (by omega)).mono ?_
  rintro e w' ⟨h1, ⟨g, hg, h2⟩, h3⟩
  exact ⟨h1, g, h.set hg h2 h3⟩
theorem decDigits_len64 {n : Nat} (h : n < 18446744073709551616) : (Lib.decDigits n).length ≤ 64 := by rw [← numT_dec]; exact numT_len (by omega) h
/-- A key's text. -/
def keyF (s : Nat) (d : Int) : List UInt8 := 33 :: Lib.decDigits s ++ [107] ++ numT 16 (mixN s d)
set_option maxHeartbeats 8000000 in
theorem keyText_any (s : Nat) (d : Int) (w : World) (hs : s < 2147483648) (hd : -9223372036854775808 ≤ d ∧ d ≤ 9223372036854775807) :
    Calls Tryd.prog 11 #[.int .i64 s, .int .i64 d] w fun e w' => e = .returned (.string (txt (keyF s d))) ∧ Below w.heap.size w w' := by
  have ht := top_two
  obtain ⟨T, hT⟩ : ∃ T, T = txt (keyF s d) := ⟨_, rfl⟩
  rw [← hT]
  have HT := Lib.hid hT
  obtain ⟨X, hX⟩ : ∃ X, X = w.alloc (.cells #[.bool false, .slice none 0 0] 42) := ⟨_, rfl⟩
  have hBX : Below w.heap.size w X := by rw [hX]; exact (Below.refl _ _).alloc (Nat.le_refl _) _
  have hXb : X.heap[w.heap.size]? = some (.cells #[.bool false, .slice none 0 0] 42 (0, 0)) := by rw [hX]; exact blk_last w _ rfl
  have hzX := lt_of_block hXb
  have HX := Lib.hid hX
  have HBX := Lib.hid hBX
  have HXB := Lib.hid (BigAt.zero hXb).blk
  clear hX hBX hXb hT
  go_enter Tryd.func11, Tryd.ntmps11
  go_wp2_with fail
  rw [← HX.out]
  refine (newInt_any 1 X (by omega)).mono ?_
  rintro e w1 ⟨rfl, h1, h2⟩
  have HL := Lib.hid (bigLsh64_one w.heap.size X.heap.size w1 (HXB.out.below h2) h1 (by omega))
  have HB1 := Lib.hid (HBX.out.trans (h2.mono HBX.out.size))
  have hz1 := h2.size
  clear h1 h2
  go_wp2_with fail
  refine HL.out.mono ?_
  rintro e w2 ⟨rfl, h1, h2⟩
  have HM2 := Lib.hid h1
  have HB2 := Lib.hid (HB1.out.trans (h2.toBelow (B := w.heap.size) (fun i e => by rw [e]; exact Nat.le_refl _) HB1.out.size))
  have hz2 := h2.size
  clear h1 h2
  go_wp2_with fail
  refine (newInt_any s w2 (by omega)).mono ?_
  rintro e w3 ⟨rfl, h1, h2⟩
  have HS3 := Lib.hid h1
  have HB3 := Lib.hid h2
  have hz3 := h2.size
  clear h1 h2
  go_wp2_with fail
  refine (hexA_any w3).mono ?_
  rintro e w4 ⟨rfl, h1, h2⟩
  have HTM := Lib.hid (times_any w2.heap.size w3.heap.size s 11400714819323198485 w4 (HS3.out.below h2) h1 (by omega) (by omega))
  have HB4 := Lib.hid h2
  have hz4 := h2.size
  clear h1 h2
  go_wp2_with fail
  refine HTM.out.mono ?_
  rintro e w5 ⟨rfl, h1, h2⟩
  have hz5 := h2.size
  obtain ⟨Y, hY⟩ : ∃ Y, Y = w5.alloc (.cells #[.pointer (some ⟨w4.heap.size, 0, none⟩)] 39) := ⟨_, rfl⟩
  have hBY : Below w5.heap.size w5 Y := by rw [hY]; exact (Below.refl _ _).alloc (Nat.le_refl _) _
  have hbl : Below w2.heap.size w2 w5 := (HB3.out.trans (HB4.out.mono (by omega))).trans (h2.mono (by omega))
  have hz2w := HB2.out.size
  have hm2 := HM2.out.lt
  have hKI : KI w Y w.heap.size w5.heap.size w4.heap.size ((s * 11400714819323198485 % 18446744073709551616 : Nat) : Int) :=
    ⟨(HB2.out.trans (hbl.mono hz2w)).trans (hBY.mono (by omega)), by rw [hY]; exact blk_last w5 _ rfl, (h1.below hBY).int, (HM2.out.below hbl).below hBY, by omega, by omega, by omega⟩
  obtain ⟨mb, hmb⟩ : ∃ mb, mb = w.heap.size := ⟨_, rfl⟩
  obtain ⟨c, hc⟩ : ∃ c, c = w5.heap.size := ⟨_, rfl⟩
  obtain ⟨z, hz⟩ : ∃ z, z = w4.heap.size := ⟨_, rfl⟩
  have hKI2 : KI w Y mb c z ((s * 11400714819323198485 % 18446744073709551616 : Nat) : Int) := by rw [hmb, hc, hz]; exact hKI
  have HKI := Lib.hid hKI2
  have HY := Lib.hid hY
  have HMB := Lib.hid hmb
  have HC := Lib.hid hc
  have HZ := Lib.hid hz
  clear h1 h2 hY hBY hbl hKI hKI2 hmb hc hz
  go_upto_region 4 with fail
  rw [← HY.out, ← HC.out, ← HMB.out]
  have hz0 : s * 11400714819323198485 % 18446744073709551616 < 18446744073709551616 := Nat.mod_lt _ (by omega)
  obtain ⟨n0, hn0⟩ : ∃ n, n = s * 11400714819323198485 % 18446744073709551616 := ⟨_, rfl⟩
  rw [← hn0] at HKI hz0
  have HN0 := Lib.hid hn0
  clear hn0 HX HBX HXB HB1 HB2 HM2 HS3 HB3 HB4 HL HTM
  go_cut [] from 17 to 21 (fun wx => Aside (∃ z1, KI w wx mb c z1 ((n0 : Int) + d)))
  case first =>
    have hYd : Below Y.heap.size Y Y.drew := (Below.refl _ _).drew
    have hN : Calls Tryd.prog 15 #[.int .i64 d] Y.drew fun e w' => ∃ g, e = .returned (.pointer (some ⟨g, 0, none⟩)) ∧ KI w w' mb c z (n0 : Int) ∧ BigI w' g d ∧ g ≠ z := (newIntI_any d Y.drew hd).mono fun e w' ⟨h1, h2, h3⟩ => ⟨_, h1, (HKI.out.up hYd).up h3, h2, fun e => by have := (HKI.out.up hYd).num.blk.lt; omega⟩
    have hA : ∀ W g, KI w W mb c z (n0 : Int) → BigI W g d → Calls Tryd.prog 19 #[.pointer (some ⟨z, 0, none⟩), .pointer (some ⟨z, 0, none⟩), .pointer (some ⟨g, 0, none⟩)] W fun e w' => e = .returned (.pointer (some ⟨z, 0, none⟩)) ∧ KI w w' mb c z ((n0 : Int) + d) := fun W g h h2 =>
      (bigAddI_any z z g n0 d W h.num.blk h.num h2 (by omega)).mono fun e w' ⟨h3, h4, h5⟩ => ⟨h3, h.put h4 h5⟩
    have HN := Lib.hid hN
    have HA := Lib.hid hA
    clear hN hA
    go_region_held3 (fun w' => w'.cell? ⟨c, 0, none⟩ = some (.pointer (some ⟨z, 0, none⟩))) (first | exact (HKI.out.up hYd).cell | exact h2.cell | exact h4.cell) ((first | (go_at_call 15; with_reducible refine HN.out.mono ?_; rintro e w1 ⟨g, rfl, h2, h3, h3'⟩) | (go_at_call 19; with_reducible refine (HA.out _ _ h2 h3).mono ?_; rintro e w2 ⟨rfl, h4⟩)))
    all_goals
      have H4 := Lib.hid h4
      clear h4
      go_wp2_with fail
      go_meet
      exact ⟨_, H4.out⟩
  case rest =>
    obtain ⟨z1, hK⟩ := hcut.out
    have HK1 := Lib.hid hK
    have k0 := hK.cell
    have HMD := Lib.hid (mod_any z1 z1 mb ((n0 : Int) + d) wc hK.num.blk hK.num hK.mod (by omega) (by omega))
    clear hK hcut
    go_wp2_with fail
    refine HMD.out.mono ?_
    rintro e w6 ⟨rfl, h1, h2⟩
    have hA : (((n0 : Int) + d) % 18446744073709551616).toNat = mixA s d := by rw [HN0.out]; unfold mixA; omega
    rw [hA] at h1
    have hAl := mixA_lt s d
    obtain ⟨A, hAe⟩ : ∃ A, A = mixA s d := ⟨_, rfl⟩
    rw [← hAe] at h1 hAl
    have HAE := Lib.hid hAe
    have HF := Lib.hid (fold30_any w w6 mb c z1 A (HK1.out.put h1.int h2) hAl)
    clear h1 h2 hA hAe k0 HMD
    go_wp2_with fail
    refine HF.out.mono ?_
    rintro e w7 ⟨rfl, z2, hK⟩
    clear HF
    obtain ⟨NB, hNB⟩ : ∃ N, N = A ^^^ (A / 1073741824) := ⟨_, rfl⟩
    rw [← hNB] at hK
    have hNBt : NB < 18446744073709551616 := by rw [hNB]; exact xor_lt64 hAl (by omega)
    have HK := Lib.hid hK
    have HNB := Lib.hid hNB
    have HKc := Lib.hid hK.cell
    have k0 := hK.cell
    have kf := hK.free
    clear hK hNB
    go_upto_region 8 with fail
    go_cut [] from 29 to 32 (fun wx => Aside (∃ z1, KI w wx mb c z1 ((NB * 13787848793156543929 % 18446744073709551616 : Nat) : Int)))
    case first =>
      go_region_with (first | (go_at_call 16; refine (hexB_any _).mono ?_; rintro e w6 ⟨rfl, h1, h2⟩; have hK6 := (HK.out.up ((Below.refl _ _).drew)).up h2; have k1 := hK6.cell; have kf1 := hK6.free; have HK6 := Lib.hid hK6; have H1 := Lib.hid h1; have hz6 := hK6.below.size; have hzz6 := h1.lt; have hzy6 := h2.size; have hml6 := (HK.out.mod.lt); have hzw6 := HK.out.below.size; clear hK6 h1 h2) | (go_at_call 18; refine (times_any _ _ NB 13787848793156543929 _ (HK6.out.zat rfl).2 H1.out (by omega) (by omega)).mono ?_; rintro e w7 ⟨rfl, h3, h4⟩; have hK7 := HK6.out.up h4; have k2 := hK7.cell; have kf2 := hK7.free; have HK8 := Lib.hid (hK7.store h3 (by omega) (by have := HK6.out.mod.lt; omega)); clear hK7 h3 h4))
      all_goals
        go_wp2_with fail
        go_meet
        exact ⟨_, HK8.out⟩
    case rest =>
      obtain ⟨zB, hK⟩ := hcut.out
      have hB : NB * 13787848793156543929 % 18446744073709551616 = mixB A := by rw [HNB.out]; rfl
      rw [hB] at hK
      have hBl := mixB_lt A
      obtain ⟨B, hBe⟩ : ∃ B, B = mixB A := ⟨_, rfl⟩
      rw [← hBe] at hK hBl
      have HBE := Lib.hid hBe
      have HF := Lib.hid (fold27_any w _ mb c zB B hK hBl)
      clear hK hB hBe k0 kf HKc HK hcut
      go_wp2_with fail
      refine HF.out.mono ?_
      rintro e w8 ⟨rfl, z3, hK⟩
      clear HF
      obtain ⟨NC, hNC⟩ : ∃ N, N = B ^^^ (B / 134217728) := ⟨_, rfl⟩
      rw [← hNC] at hK
      have hNCt : NC < 18446744073709551616 := by rw [hNC]; exact xor_lt64 hBl (by omega)
      have HK := Lib.hid hK
      have HNC := Lib.hid hNC
      have HKc := Lib.hid hK.cell
      have k0 := hK.cell
      have kf := hK.free
      clear hK hNC
      go_upto_region 10 with fail
      go_cut [] from 35 to 38 (fun wx => Aside (∃ z1, KI w wx mb c z1 ((NC * 10723151780598845931 % 18446744073709551616 : Nat) : Int)))
      case first =>
        go_region_with (first | (go_at_call 16; refine (hexC_any _).mono ?_; rintro e w6 ⟨rfl, h1, h2⟩; have hK6 := (HK.out.up ((Below.refl _ _).drew)).up h2; have k1 := hK6.cell; have kf1 := hK6.free; have HK6 := Lib.hid hK6; have H1 := Lib.hid h1; have hz6 := hK6.below.size; have hzz6 := h1.lt; have hzy6 := h2.size; have hml6 := (HK.out.mod.lt); have hzw6 := HK.out.below.size; clear hK6 h1 h2) | (go_at_call 18; refine (times_any _ _ NC 10723151780598845931 _ (HK6.out.zat rfl).2 H1.out (by omega) (by omega)).mono ?_; rintro e w7 ⟨rfl, h3, h4⟩; have hK7 := HK6.out.up h4; have k2 := hK7.cell; have kf2 := hK7.free; have HK8 := Lib.hid (hK7.store h3 (by omega) (by have := HK6.out.mod.lt; omega)); clear hK7 h3 h4))
        all_goals
          go_wp2_with fail
          go_meet
          exact ⟨_, HK8.out⟩
      case rest =>
        obtain ⟨zC, hK⟩ := hcut.out
        have hC : NC * 10723151780598845931 % 18446744073709551616 = mixC B := by rw [HNC.out]; rfl
        rw [hC] at hK
        have hCl := mixC_lt B
        obtain ⟨C, hCe⟩ : ∃ C, C = mixC B := ⟨_, rfl⟩
        rw [← hCe] at hK hCl
        have HF := Lib.hid (fold31_any w _ mb c zC C hK hCl)
        have hfin : C ^^^ (C / 2147483648) = mixN s d := by rw [hCe, HBE.out, HAE.out]; rfl
        rw [hfin] at HF
        have hNl := mixN_lt s d
        obtain ⟨M, hM⟩ : ∃ M, M = mixN s d := ⟨_, rfl⟩
        rw [← hM] at HF hNl
        have HMM := Lib.hid hM
        clear hK hC hCe k0 kf HKc HK hfin hM hcut
        go_wp2_with fail
        refine HF.out.mono ?_
        rintro e w9 ⟨rfl, z4, hK⟩
        clear HF
        have HK := Lib.hid hK
        have hzat := (hK.zat rfl).2
        have g0 : ∀ x : Grow w9, x.val.cell? ⟨c, 0, none⟩ = some (.pointer (some ⟨z4, 0, none⟩)) := Grow.cells hK.cell
        obtain ⟨Y0, hY0⟩ : ∃ Y, Y = txt (Lib.decDigits s) := ⟨_, rfl⟩
        obtain ⟨Y1, hY1⟩ : ∃ Y, Y = txt (numT 16 M) := ⟨_, rfl⟩
        have hk0 := fun x : Grow w9 => decimal_any s x.val (by omega)
        have hk1 := fun x : Grow w9 => text_any z4 M 16 x.val (by omega) (by omega) (hzat.below x.below) (by omega)
        have hs0 : Y0.size ≤ 64 := by rw [hY0, txt_size]; exact decDigits_len64 (by omega)
        have hs1 : Y1.size ≤ 64 := by rw [hY1, txt_size]; exact numT_len (by omega) hNl
        have hTT : T = ⟨#[33]⟩ ++ Y0 ++ ⟨#[107]⟩ ++ Y1 := by
          rw [HT.out, hY0, hY1, HMM.out]
          show _ = txt [33] ++ _ ++ txt [107] ++ _
          rw [txt_add, txt_add, txt_add]
          rfl
        rw [← hY0] at hk0
        rw [← hY1] at hk1
        have K0 := Lib.hid hk0
        have K1 := Lib.hid hk1
        have HTT := Lib.hid hTT
        have n1 : ¬ (9223372036854775807 < 1 + Y0.size) := by omega
        have n2 : ¬ (9223372036854775807 < 1 + Y0.size + 1) := by omega
        have n3 : ¬ (9223372036854775807 < 1 + Y0.size + 1 + Y1.size) := by omega
        clear hK hzat hY0 hY1 hk0 hk1 hTT
        go_upto_region 12 with fail
        refine wp_region_grow (by kernel_rfl) (by kernel_rfl) ?_
        repeat (go_big_quiet_step (first | (go_at_call 24; with_reducible exact grow_of (K0.out _)) | (go_at_call 25; with_reducible exact grow_of (K1.out _))))
        refine wpQuiet_nil ?_
        intro _ hw'
        obtain ⟨x, hx⟩ := hw'
        subst hx
        go_wp2_with fail
        go_ret
        exact ⟨by rw [HTT.out]; rfl, HK.out.below.trans (x.below.mono HK.out.below.size)⟩
end Go.Proofs.YtjbkfkgdpbjliaaDoor
