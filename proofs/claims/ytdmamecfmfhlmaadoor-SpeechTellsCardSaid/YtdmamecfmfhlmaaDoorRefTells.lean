/-
  the document's TellAnswer: an answer's text.
-/
import Derived.Test.YtdmamecfmfhlmaaDoorTellMath
import Derived.Deep.CutBlock
import Derived.BigQuiet
namespace Go.Proofs.YtdmamecfmfhlmaaDoor
set_option maxRecDepth 100000
open Go.RowKit

set_option maxHeartbeats 8000000 in
set_option maxRecDepth 100000 in
theorem refTell_any (verb code n x0 y0 x1 y1 rb rl : Int) (key : ByteArray) (zs : List (Int × Int)) (a : Option Addr) (cap : Nat) (w : World) (hs : Sl w 2 16 a zs.length cap (zs.flatMap encCell)) (hz : ∀ z ∈ zs, GoodCell z)
    (hq : AnsD.Good ⟨code, n, x0, y0, x1, y1, rb, rl, key⟩) :
    Calls Tryd.prog 17 #[.int .i64 verb, .agg #[.int .i64 code, .int .i64 n, .int .i64 x0, .int .i64 y0, .int .i64 x1, .int .i64 y1, .int .i64 rb, .int .i64 rl, .string key, .slice a zs.length cap]] w fun e w' =>
      e = .returned (.tuple #[.string (tellF verb ⟨code, n, x0, y0, x1, y1, rb, rl, key⟩ zs).1, .int .i64 (tellF verb ⟨code, n, x0, y0, x1, y1, rb, rl, key⟩ zs).2]) ∧ Below w.heap.size w w' := by
  obtain ⟨g1, g2, ⟨g3, g4, g5, g6⟩, g7, g8, g9⟩ := hq
  simp only at g1 g2 g3 g4 g5 g6 g7 g8 g9
  obtain ⟨r, hr⟩ : ∃ r, r = tellF verb ⟨code, n, x0, y0, x1, y1, rb, rl, key⟩ zs := ⟨_, rfl⟩
  rw [← hr]
  have HI := Lib.hid (fun (k : Int) (W : World) (hk : I64 k) (h : Below w.heap.size w W) => decimalZ_any k W hk)
  have s1 := numZ_size g1
  have s2 := numZ_size g2
  have s3 := numZ_size g3
  have s4 := numZ_size g4
  have s5 := numZ_size g5
  have s6 := numZ_size g6
  have HG := Lib.hid g1
  have HG2 := Lib.hid g2
  have HG3 := Lib.hid g3
  have HG4 := Lib.hid g4
  have HG5 := Lib.hid g5
  have HG6 := Lib.hid g6
  have hbA : Below w.heap.size w (w.alloc (.cells #[.int .i64 code, .int .i64 n, .int .i64 x0, .int .i64 y0, .int .i64 x1, .int .i64 y1, .int .i64 rb, .int .i64 rl, .string key, .slice a zs.length cap] 43)) := (Below.refl _ _).alloc (Nat.le_refl _) _
  by_cases v0 : verb < 0 ∨ 11 ≤ verb
  · have e : r = (⟨#[]⟩, 4) := by rw [hr, tellF, if_pos v0]
    rw [e]
    clear hr e hs HI
    rcases v0 with v0 | v0
    · have t1 : decide (verb < 0) = true := decide_eq_true v0
      go_enter Tryd.func17, Tryd.ntmps17
      go_wp2_with fail
      go_ret2
      exact ⟨rfl, hbA⟩
    · have t1 : decide (verb < 0) = false := decide_eq_false (by omega)
      have t2 : decide (verb ≥ 11) = true := decide_eq_true v0
      have t3 : decide (11 ≤ verb) = true := decide_eq_true v0
      have t4 : decide (verb > 10) = true := decide_eq_true (by omega)
      have t5 : decide (10 < verb) = true := decide_eq_true (by omega)
      go_enter Tryd.func17, Tryd.ntmps17
      go_wp2_with fail
      go_ret2
      exact ⟨rfl, hbA⟩
  · have t1 : decide (verb < 0) = false := decide_eq_false (by omega)
    have t2 : decide (verb ≥ 11) = false := decide_eq_false (by omega)
    have t3 : decide (11 ≤ verb) = false := decide_eq_false (by omega)
    have t4 : decide (verb > 10) = false := decide_eq_false (by omega)
    have t5 : decide (10 < verb) = false := decide_eq_false (by omega)
    by_cases hc : code = 0
    · subst hc
      by_cases v3 : verb = 3
      · subst v3
        have hr3 : r = (if (encF zs rb rl).2 ≠ 0 then (⟨#[]⟩, (encF zs rb rl).2)
            else if zs.length = 0 then (⟨#[110, 111, 110, 101, 10]⟩ ++ txt (encF zs rb rl).1, 0)
            else (⟨#[97, 116, 32]⟩ ++ numZ (boxF zs).x0 ++ ⟨#[32]⟩ ++ numZ (boxF zs).y0 ++ ⟨#[10]⟩ ++ txt (encF zs rb rl).1, 0)) := by
          rw [hr, tellF, if_neg v0, if_neg (by simp), if_pos rfl]
        have hE := fun W (h : Below w.heap.size w W) => refEncode_any zs rb rl a cap W (hs.below (by omega) h)
        have hBd := fun W (h : Below w.heap.size w W) => refBounds_any zs a cap W (hs.below (by omega) h)
        obtain ⟨⟨bx0, by0, bx1, by1⟩, hBX⟩ : ∃ B, B = boxF zs := ⟨_, rfl⟩
        obtain ⟨i1, i2, i3, i4⟩ := boxF_i64 hz
        have hel := encF_len zs rb rl
        obtain ⟨⟨T, er⟩, hT⟩ : ∃ R, R = encF zs rb rl := ⟨_, rfl⟩
        obtain ⟨TX, hTX⟩ : ∃ TX, TX = txt T := ⟨_, rfl⟩
        rw [← hT] at hr3 hel
        simp only at hr3 hel
        have hTs : TX.size ≤ 1000000 := by rw [hTX, txt_size]; exact hel
        have hE2 : ∀ W, Below w.heap.size w W → Calls Tryd.prog 13 #[.slice a zs.length cap, .agg #[.int .i64 rb, .int .i64 rl]] W fun e w' => e = .returned (.tuple #[.string TX, .int .i64 er]) ∧ Below W.heap.size W w' := fun W h => (hE W h).mono fun e w' ⟨h1, h2⟩ => ⟨by rw [h1, ← hT, hTX], h2⟩
        rw [← hBX] at hr3 i1 i2 i3 i4
        simp only at hr3 i1 i2 i3 i4
        have hB2 : ∀ W, Below w.heap.size w W → Calls Tryd.prog 34 #[.slice a zs.length cap] W fun e w' => e = .returned (.tuple #[.agg #[.int .i64 bx0, .int .i64 by0, .int .i64 bx1, .int .i64 by1], .bool (decide (0 < zs.length))]) ∧ Below W.heap.size W w' := fun W h => (hBd W h).mono fun e w' ⟨h1, h2⟩ => ⟨by rw [h1, ← hBX]; rfl, h2⟩
        rw [← hTX] at hr3
        obtain ⟨Y0, hY0⟩ : ∃ Y, Y = numZ bx0 := ⟨_, rfl⟩
        obtain ⟨Y1, hY1⟩ : ∃ Y, Y = numZ by0 := ⟨_, rfl⟩
        have z3 := numZ_size i1
        have z4 := numZ_size i2
        rw [← hY0] at z3 hr3
        rw [← hY1] at z4 hr3
        obtain ⟨m, hm⟩ : ∃ m, m = zs.length := ⟨_, rfl⟩
        rw [← hm] at hE2 hB2 hr3 hbA ⊢
        have HE := Lib.hid hE2
        have HB := Lib.hid hB2
        have HR := Lib.hid hr3
        have HY0 := Lib.hid hY0
        have HY1 := Lib.hid hY1
        have HI1 := Lib.hid i1
        have HI2 := Lib.hid i2
        have hXb : (w.alloc (.cells #[.int .i64 0, .int .i64 n, .int .i64 x0, .int .i64 y0, .int .i64 x1, .int .i64 y1, .int .i64 rb, .int .i64 rl, .string key, .slice a m cap] 43)).heap[w.heap.size]? = some (.cells #[.int .i64 0, .int .i64 n, .int .i64 x0, .int .i64 y0, .int .i64 x1, .int .i64 y1, .int .i64 rb, .int .i64 rl, .string key, .slice a m cap] 43 (0, 0)) := blk_last w _ rfl
        have HXB := Lib.hid hXb
        clear hE hBd hBX hT hTX hE2 hB2 hY0 hY1 i1 i2 i3 i4 hr3 hs hz hr hm hel hXb
        go_enter Tryd.func17, Tryd.ntmps17
        go_wp2_with fail
        refine (HE.out _ hbA).mono ?_
        rintro e w1 ⟨rfl, hb1⟩
        have hz1 := hb1.size
        simp only [World.size_alloc] at hz1
        have hw1 : Below w.heap.size w w1 := hbA.trans (hb1.mono (by simp))
        by_cases he : er = 0
        · subst he
          have hxb1 : w1.heap[w.heap.size]? = _ := (hb1.block _ (by simp)).trans HXB.out
          have f9 := Joins.cell_of_block hxb1 9
          simp at f9
          clear hxb1
          go_wp2_with fail
          refine (HB.out _ hw1).mono ?_
          rintro e w2 ⟨rfl, hb2⟩
          have hz2 := hb2.size
          have hw2 := hw1.trans (hb2.mono hw1.size)
          have hw3 := hw2.alloc (by omega) (.cells #[.int .i64 bx0, .int .i64 by0, .int .i64 bx1, .int .i64 by1] 41)
          obtain ⟨w3, hW3⟩ : ∃ W, W = w2.alloc (.cells #[.int .i64 bx0, .int .i64 by0, .int .i64 bx1, .int .i64 by1] 41) := ⟨_, rfl⟩
          have hbb3 : w3.heap[w2.heap.size]? = some (.cells #[.int .i64 bx0, .int .i64 by0, .int .i64 bx1, .int .i64 by1] 41 (0, 0)) := by rw [hW3]; exact blk_last w2 _ rfl
          have HW3 := Lib.hid hW3
          rw [← hW3] at hw3
          clear hW3
          by_cases hm0 : m = 0
          · subst hm0
            have hr4 := HR.out
            rw [if_neg (by simp), if_pos rfl] at hr4
            have HR4 := Lib.hid hr4
            clear hr4
            go_wp2_with fail
            go_ret2
            rw [HW3.out] at hw3
            exact ⟨by rw [HR4.out]; rfl, hw3⟩
          · have hr4 := HR.out
            rw [if_neg (by simp), if_neg hm0] at hr4
            have HR4 := Lib.hid hr4
            clear hr4
            have dm : decide (0 < m) = true := decide_eq_true (by omega)
            have c0 : ∀ x : Grow w3, x.val.cell? ⟨w2.heap.size, 0, none⟩ = some (.int .i64 bx0) := Grow.cells (Joins.cell_of_block hbb3 0)
            have c1 : ∀ x : Grow w3, x.val.cell? ⟨w2.heap.size, 1, none⟩ = some (.int .i64 by0) := Grow.cells (Joins.cell_of_block hbb3 1)
            have hgr : ∀ x : Grow w3, Below w.heap.size w x.val := fun x => hw3.trans (x.below.mono hw3.size)
            have k0 := fun x : Grow w3 => HI.out bx0 x.val HI1.out (hgr x)
            have k1 := fun x : Grow w3 => HI.out by0 x.val HI2.out (hgr x)
            rw [← HY0.out] at k0
            rw [← HY1.out] at k1
            have K0 := Lib.hid k0
            have K1 := Lib.hid k1
            have n1 : ¬ (9223372036854775807 < 3 + Y0.size) := by omega
            have n2 : ¬ (9223372036854775807 < 3 + Y0.size + 1) := by omega
            have n3 : ¬ (9223372036854775807 < 3 + Y0.size + 1 + Y1.size) := by omega
            have n4 : ¬ (9223372036854775807 < 3 + Y0.size + 1 + Y1.size + 1) := by omega
            have n5 : ¬ (9223372036854775807 < 3 + Y0.size + 1 + Y1.size + 1 + TX.size) := by omega
            have HGR := Lib.hid hgr
            clear k0 k1 hgr hbb3
            go_upto_region 21 with fail
            rw [← HW3.out]
            refine wp_region_grow (by kernel_rfl) (by kernel_rfl) ?_
            repeat (go_big_quiet_step ((go_at_call 36; first | (with_reducible exact grow_of (K0.out _)) | (with_reducible exact grow_of (K1.out _)))))
            refine wpQuiet_nil ?_
            intro _ hw'
            obtain ⟨x, hx⟩ := hw'
            subst hx
            go_wp2_with fail
            go_ret2
            exact ⟨by rw [HR4.out]; rfl, HGR.out x⟩
        · have he1 : (er == 0) = false := by simpa using he
          have hr4 := HR.out
          rw [if_pos he] at hr4
          have HR4 := Lib.hid hr4
          clear hr4 he
          go_wp2_with fail
          go_ret2
          exact ⟨by rw [HR4.out]; rfl, hw1⟩
      · have u3 : (verb == 3) = false := by simpa using v3
        by_cases v5 : verb = 5 ∨ verb = 10
        · have e : r = (⟨#[99, 111, 117, 110, 116, 32]⟩ ++ numZ n, 0) := by rw [hr, tellF, if_neg v0, if_neg (by simp), if_neg v3, if_pos v5]
          rw [e]
          clear hr e hs t1 t2 t3 t4 t5 v0 u3 v3
          rcases v5 with rfl | rfl
          all_goals
            go_enter Tryd.func17, Tryd.ntmps17
            go_wp2_with fail
            refine (HI.out n _ HG2.out hbA).mono ?_
            rintro e w1 ⟨rfl, hb1⟩
            have hB := hbA.trans (hb1.mono (by simp))
            go_wp2_with fail
            go_ret2
            exact ⟨rfl, hB⟩
        · have u5 : (verb == 5) = false := by simp; omega
          have u10 : (verb == 10) = false := by simp; omega
          by_cases v9 : verb = 9
          · subst v9
            have e : r = (⟨#[107, 101, 121, 32]⟩ ++ key, 0) := by rw [hr, tellF, if_neg v0, if_neg (by simp), if_neg v3, if_neg v5, if_pos rfl]
            rw [e]
            clear hr e hs t1 t2 t3 t4 t5 v0 u3 v3 v5 u5 u10 HI
            go_enter Tryd.func17, Tryd.ntmps17
            go_wp2_with fail
            go_ret2
            exact ⟨rfl, hbA⟩
          · have u9 : (verb == 9) = false := by simp; omega
            by_cases v6 : verb = 6
            · subst v6
              by_cases hn : n = 0
              · subst hn
                have e : r = (⟨#[110, 111, 110, 101]⟩, 0) := by rw [hr, tellF, if_neg v0, if_neg (by simp), if_neg v3, if_neg v5, if_neg v9, if_pos rfl, if_pos rfl]
                rw [e]
                clear hr e hs t1 t2 t3 t4 t5 v0 u3 v3 v5 u5 u10 HI u9 v9
                go_enter Tryd.func17, Tryd.ntmps17
                go_wp2_with fail
                go_ret2
                exact ⟨rfl, hbA⟩
              · have hn0 : (n == 0) = false := by simpa using hn
                have e : r = (⟨#[98, 111, 120, 32]⟩ ++ numZ x0 ++ ⟨#[32]⟩ ++ numZ y0 ++ ⟨#[32]⟩ ++ numZ x1 ++ ⟨#[32]⟩ ++ numZ y1, 0) := by rw [hr, tellF, if_neg v0, if_neg (by simp), if_neg v3, if_neg v5, if_neg v9, if_pos rfl, if_neg hn]
                rw [e]
                clear hr e hs t1 t2 t3 t4 t5 v0 u3 v3 v5 u5 u10 u9 v9 hn
                obtain ⟨Y0, hY0⟩ : ∃ Y, Y = numZ x0 := ⟨_, rfl⟩
                obtain ⟨Y1, hY1⟩ : ∃ Y, Y = numZ y0 := ⟨_, rfl⟩
                obtain ⟨Y2, hY2⟩ : ∃ Y, Y = numZ x1 := ⟨_, rfl⟩
                obtain ⟨Y3, hY3⟩ : ∃ Y, Y = numZ y1 := ⟨_, rfl⟩
                rw [← hY0] at s3
                rw [← hY1] at s4
                rw [← hY2] at s5
                rw [← hY3] at s6
                rw [← hY0, ← hY1, ← hY2, ← hY3]
                obtain ⟨X, hX⟩ : ∃ X, X = w.alloc (.cells #[.int .i64 0, .int .i64 n, .int .i64 x0, .int .i64 y0, .int .i64 x1, .int .i64 y1, .int .i64 rb, .int .i64 rl, .string key, .slice a zs.length cap] 43) := ⟨_, rfl⟩
                have hbX : Below w.heap.size w X := by rw [hX]; exact hbA
                have hzX := hbX.size
                have hXb : X.heap[w.heap.size]? = some (.cells #[.int .i64 0, .int .i64 n, .int .i64 x0, .int .i64 y0, .int .i64 x1, .int .i64 y1, .int .i64 rb, .int .i64 rl, .string key, .slice a zs.length cap] 43 (0, 0)) := by rw [hX]; exact blk_last w _ rfl
                have c2 : ∀ x : Grow X, x.val.cell? ⟨w.heap.size, 2, none⟩ = some (.int .i64 x0) := Grow.cells (Joins.cell_of_block hXb 2)
                have c3 : ∀ x : Grow X, x.val.cell? ⟨w.heap.size, 3, none⟩ = some (.int .i64 y0) := Grow.cells (Joins.cell_of_block hXb 3)
                have c4 : ∀ x : Grow X, x.val.cell? ⟨w.heap.size, 4, none⟩ = some (.int .i64 x1) := Grow.cells (Joins.cell_of_block hXb 4)
                have c5 : ∀ x : Grow X, x.val.cell? ⟨w.heap.size, 5, none⟩ = some (.int .i64 y1) := Grow.cells (Joins.cell_of_block hXb 5)
                have hgr : ∀ x : Grow X, Below w.heap.size w x.val := fun x => hbX.trans (x.below.mono hzX)
                have k0 := fun x : Grow X => HI.out x0 x.val HG3.out (hgr x)
                have k1 := fun x : Grow X => HI.out y0 x.val HG4.out (hgr x)
                have k2 := fun x : Grow X => HI.out x1 x.val HG5.out (hgr x)
                have k3 := fun x : Grow X => HI.out y1 x.val HG6.out (hgr x)
                rw [← hY0] at k0
                rw [← hY1] at k1
                rw [← hY2] at k2
                rw [← hY3] at k3
                have K0 := Lib.hid k0
                have K1 := Lib.hid k1
                have K2 := Lib.hid k2
                have K3 := Lib.hid k3
                have n1 : ¬ (9223372036854775807 < 4 + Y0.size) := by omega
                have n2 : ¬ (9223372036854775807 < 4 + Y0.size + 1) := by omega
                have n3 : ¬ (9223372036854775807 < 4 + Y0.size + 1 + Y1.size) := by omega
                have n4 : ¬ (9223372036854775807 < 4 + Y0.size + 1 + Y1.size + 1) := by omega
                have n5 : ¬ (9223372036854775807 < 4 + Y0.size + 1 + Y1.size + 1 + Y2.size) := by omega
                have n6 : ¬ (9223372036854775807 < 4 + Y0.size + 1 + Y1.size + 1 + Y2.size + 1) := by omega
                have n7 : ¬ (9223372036854775807 < 4 + Y0.size + 1 + Y1.size + 1 + Y2.size + 1 + Y3.size) := by omega
                have HGR := Lib.hid hgr
                have HX := Lib.hid hX
                clear hY0 hY1 hY2 hY3 hXb k0 k1 k2 k3 hgr HI hbA hX
                go_enter Tryd.func17, Tryd.ntmps17
                go_upto_region 12 with fail
                rw [← HX.out]
                refine wp_region_grow (by kernel_rfl) (by kernel_rfl) ?_
                repeat (go_big_quiet_step ((go_at_call 36; first | (with_reducible exact grow_of (K0.out _)) | (with_reducible exact grow_of (K1.out _)) | (with_reducible exact grow_of (K2.out _)) | (with_reducible exact grow_of (K3.out _)))))
                refine wpQuiet_nil ?_
                intro _ hw'
                obtain ⟨x, hx⟩ := hw'
                subst hx
                go_wp2_with fail
                go_ret2
                exact ⟨rfl, HGR.out x⟩
            · have u6 : (verb == 6) = false := by simp; omega
              have e : r = (⟨#[111, 107]⟩, 0) := by rw [hr, tellF, if_neg v0, if_neg (by simp), if_neg v3, if_neg v5, if_neg v9, if_neg v6]
              rw [e]
              clear hr e hs v0 v3 v5 HI v9 v6
              go_enter Tryd.func17, Tryd.ntmps17
              go_wp2_with fail
              go_ret2
              exact ⟨rfl, hbA⟩
    · have hc0 : (code == 0) = false := by simpa using hc
      have e : r = (⟨#[110, 111, 32]⟩ ++ numZ code, 0) := by rw [hr, tellF, if_neg v0, if_pos hc]
      rw [e]
      clear hr e hs v0 hc
      go_enter Tryd.func17, Tryd.ntmps17
      go_wp2_with fail
      refine (HI.out code _ HG.out hbA).mono ?_
      rintro e w1 ⟨rfl, hb1⟩
      have hB := hbA.trans (hb1.mono (by simp))
      go_wp2_with fail
      go_ret2
      exact ⟨rfl, hB⟩
end Go.Proofs.YtdmamecfmfhlmaaDoor
