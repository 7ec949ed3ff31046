/-
  leap.Steps, with a good rule.
-/
import Derived.Test.YtabhpbkkjijfjaaZLeapSteps40
namespace Go.Proofs.Ytabhpbkkjijfjaa
set_option maxRecDepth 100000
open Go.RowKit

/-- The root behind the bits below j: its level and its square. -/
def stepT (B Lv : Int) (n l0 : Nat) (T0 : Tree) : Nat → Nat × Tree
  | 0 => (peelL l0 T0, peelT l0 T0)
  | j + 1 => if n.testBit j = true then (peelL (goalL (stepT B Lv n l0 T0 j).1 j - 1) (leapR B Lv (stepT B Lv n l0 T0 j).1 j (stepT B Lv n l0 T0 j).2), peelT (goalL (stepT B Lv n l0 T0 j).1 j - 1) (leapR B Lv (stepT B Lv n l0 T0 j).1 j (stepT B Lv n l0 T0 j).2)) else stepT B Lv n l0 T0 j
def StepD (B Lv : Int) (n l0 : Nat) (T0 : Tree) (th : Th) : Prop :=
  (∃ X, PeelD l0 T0 X ∧ th = .sq X) ∨ ∃ j, n.testBit j = true ∧ LeapD B Lv (stepT B Lv n l0 T0 j).1 j (stepT B Lv n l0 T0 j).2 th
theorem stepT_bit {B Lv : Int} {n l0 j : Nat} {T0 : Tree} (h : n.testBit j = true) : stepT B Lv n l0 T0 (j + 1) = (peelL (goalL (stepT B Lv n l0 T0 j).1 j - 1) (leapR B Lv (stepT B Lv n l0 T0 j).1 j (stepT B Lv n l0 T0 j).2), peelT (goalL (stepT B Lv n l0 T0 j).1 j - 1) (leapR B Lv (stepT B Lv n l0 T0 j).1 j (stepT B Lv n l0 T0 j).2)) := by
  rw [stepT, if_pos h]
theorem stepT_skip {B Lv : Int} {n l0 j : Nat} {T0 : Tree} (h : n.testBit j = false) : stepT B Lv n l0 T0 (j + 1) = stepT B Lv n l0 T0 j := by
  rw [stepT, if_neg (by rw [h]; decide)]
theorem stepT_end {B Lv : Int} {n l0 j : Nat} {T0 : Tree} (h : n < 2 ^ j) : ∀ k, stepT B Lv n l0 T0 (j + k) = stepT B Lv n l0 T0 j
  | 0 => rfl
  | k + 1 => by
    rw [← stepT_end h k]
    exact stepT_skip (Nat.testBit_lt_two_pow (Nat.lt_of_lt_of_le h (Nat.pow_le_pow_right (by omega) (Nat.le_add_right j k))))
/-- Behind some rounds of Steps. -/
structure StSt (U : Th → Prop) (B Lv : Int) (n l0 : Nat) (T0 : Tree) (V : World) (F : Nat → Prop) (b t : Nat) (S : ArS) (j : Nat) (id er : Int) (S1 : ArS) (F1 : Nat → Prop) (W : World) : Prop where
  ar : IsAr b S1 W F1
  res : LRes U t S S1 0 er
  den : er = 0 → Den S1.L t (stepT B Lv n l0 T0 j).1 (stepT B Lv n l0 T0 j).2 id
  i64 : I64 id
  far : ∀ i, F1 i → F i ∨ V.heap.size ≤ i
  keep : Keeps F V W
set_option maxHeartbeats 8000000 in
set_option maxRecDepth 100000 in
theorem steps_by (HRES : ∀ n, n + 2 ≤ 44 → ResOk n) {U : Th → Prop} (b t : Nat) (S : ArS) (F : Nat → Prop) (B Lv : Int) (l0 n : Nat) (T0 : Tree) (id : Int) (w : World) (h : IsAr b S w F) (wf : Wf S.L) (hnote : NoteI S.L) (ht : t < 64) (hB : goodF B Lv = true) (hn : n ≤ 1073741824) (hd : Den S.L t l0 T0 id) (h2 : 2 ≤ l0) (h44 : l0 ≤ 44)
    (hlev : ∀ j, n.testBit j = true → 2 ≤ (stepT B Lv n l0 T0 j).1 ∧ (stepT B Lv n l0 T0 j).1 ≤ 42) (hU : ∀ th, StepD B Lv n l0 T0 th → U th) :
    Calls Try.prog 6 #[.pointer (some ⟨b, 0, none⟩), .int .i64 t, .agg #[.int .i64 B, .int .i64 Lv], .int .i64 id, .int .i64 (n : Int)] w (LGets U w F b t S (stepT B Lv n l0 T0 31).1 (stepT B Lv n l0 T0 31).2) := by
  have hBL := goodF_in hB
  obtain ⟨X, hX⟩ : ∃ X, X = w.alloc (.cells #[.int .i64 B, .int .i64 Lv] 23 (0, 0)) := ⟨_, rfl⟩
  have hbX : Below w.heap.size w X := by rw [hX]; exact (Below.refl _ _).alloc (Nat.le_refl _) _
  have hrx : X.heap[w.heap.size]? = some (.cells #[.int .i64 B, .int .i64 Lv] 23 (0, 0)) := by rw [hX]; exact blk_last w _ rfl
  obtain ⟨rb, hrb⟩ : ∃ r, r = w.heap.size := ⟨_, rfl⟩
  have hG := good_any B Lv X
  rw [hB] at hG
  have HG := Lib.hid hG
  have HI := Lib.hid h
  have HD := Lib.hid hd
  have HXE := Lib.hid hX
  have HRB := Lib.hid hrb
  have HBX := Lib.hid hbX
  have HRX := Lib.hid hrx
  have HW := Lib.hid (show Wf S.L ∧ NoteI S.L from ⟨wf, hnote⟩)
  have HU := Lib.hid hU
  have HLEV := Lib.hid hlev
  have HGB := Lib.hid hB
  have l1 : X.cell? ⟨rb, 0, none⟩ = some (.int .i64 B) := by rw [hrb]; exact Joins.cell_of_block hrx 0
  have l2 : X.cell? ⟨rb, 1, none⟩ = some (.int .i64 Lv) := by rw [hrb]; exact Joins.cell_of_block hrx 1
  have t1 : decide ((n : Int) < 0) = false := decide_eq_false (by omega)
  have t2 : decide ((n : Int) > 1073741824) = false := decide_eq_false (by omega)
  have t3 : decide (1073741824 < n) = false := decide_eq_false (by omega)
  have t4 : decide ((1073741824 : Int) < (n : Int)) = false := decide_eq_false (by omega)
  clear h wf hnote hB hd hU hG hX hbX hrx hrb hlev
  go_enter Try.func6, Try.ntmps6
  go_upto_region 1 with fail
  rw [← HXE.out, ← HRB.out]
  go_wp2_with fail
  with_reducible refine HG.out.mono ?_
  rintro e w1 ⟨rfl, hb1⟩
  have hi1 := (HI.out.below HBX.out).below hb1
  have HB1 := Lib.hid (show Below w.heap.size w w1 from HBX.out.trans (hb1.mono HBX.out.size))
  have HR1 := Lib.hid (show w1.heap[rb]? = some (.cells #[.int .i64 B, .int .i64 Lv] 23 (0, 0)) from by rw [HRB.out]; exact (hb1.block _ (lt_of_block HRX.out)).trans HRX.out)
  have HP := Lib.hid (peel_any (U := fun th => U th ∧ isSq th) b t S F l0 T0 id w1 hi1 HW.out.1 ht HD.out h2 h44 (fun X hX => ⟨HU.out _ (.inl ⟨X, hX, rfl⟩), trivial⟩))
  have HRF := Lib.hid (show ¬ F rb ∧ rb < w1.heap.size from ⟨fun e => by have := HI.out.lt _ e; have := HRB.out; omega, lt_of_block HR1.out⟩)
  clear hb1 hi1 l1 l2 t1 t2 t3 t4
  go_wp2_with fail
  with_reducible refine HP.out.mono ?_
  rintro e w2 ⟨r2, e2, S2, F2, rfl, g1, g2, g3, g4, g5, g6, g7⟩
  obtain ⟨V, hV⟩ : ∃ V, V = w1 := ⟨_, rfl⟩
  rw [← hV] at HB1 HR1 HRF g6 g7
  have HL0 : Aside (StSt U B Lv n l0 T0 V F b t S 0 r2 e2 S2 F2 w2) := ⟨g5, g2.lres HI.out.ok HW.out.1, g3, g1, g6, g7⟩
  clear g1 g2 g3 g4 g5 g6 g7 hV
  go_upto_region 7 with fail
  go_loopw [3, 12, 13] (fun rv ev jv ws => ∃ (j : Nat) (id1 er : Int) (S1 : ArS) (F1 : Nat → Prop), rv = .int .i64 id1 ∧ ev = .int .i64 er ∧ jv = .int .i64 (j : Int) ∧ Aside (j ≤ 31 ∧ StSt U B Lv n l0 T0 V F b t S j id1 er S1 F1 ws)) (fun _ _ jv _ => 32 - (intOf jv).toNat)
  case atStart => exact ⟨0, r2, e2, S2, F2, rfl, rfl, rfl, by omega, HL0.out⟩
  case round =>
    obtain ⟨j, id1, er, S1, F1, rfl, rfl, rfl, hq⟩ := hrel
    have HQ := Lib.hid hq.out
    obtain ⟨q, hqd⟩ : ∃ q, q = n / 2 ^ j := ⟨_, rfl⟩
    have f1 : (n : Int) / 2 ^ j = (q : Int) := by rw [hqd, Int.natCast_ediv, Int.natCast_pow]; rfl
    have HQD := Lib.hid hqd
    have hj := HQ.out.1
    have f0 : IntKind.u64.wrap (j : Int) = (j : Int) := by rw [IntKind.wrap_u64]; omega
    have f2 : min j 64 = j := by omega
    clear hq hqd
    by_cases hq0 : q = 0
    · have hlast : stepT B Lv n l0 T0 31 = stepT B Lv n l0 T0 j := by
        have hlt : n < 2 ^ j := by
          have := HQD.out
          rw [hq0] at this
          exact Nat.lt_of_div_eq_zero (Nat.two_pow_pos j) this.symm
        have := stepT_end (B := B) (Lv := Lv) (l0 := l0) (T0 := T0) hlt (31 - j)
        rwa [show j + (31 - j) = 31 by omega] at this
      have HLAST := Lib.hid hlast
      subst hq0
      clear hlast
      by_cases he : er = 0
      · subst he
        have HE : Aside (LGets U w F b t S (stepT B Lv n l0 T0 31).1 (stepT B Lv n l0 T0 31).2 (.returned (.tuple #[.int .i64 id1, .int .i64 0])) wr) := LGets.late ⟨id1, 0, S1, F1, rfl, HQ.out.2.i64, HQ.out.2.res, fun e => by rw [HLAST.out]; exact HQ.out.2.den e, fun e => absurd rfl e, HQ.out.2.ar, HQ.out.2.far, HQ.out.2.keep⟩ HB1.out
        go_wp2_with fail
        go_ret2
        exact HE.out
      · have v1 : (er == 0) = false := by simpa using he
        have v2 : (er != 0) = true := by simpa using he
        have HE : Aside (LGets U w F b t S (stepT B Lv n l0 T0 31).1 (stepT B Lv n l0 T0 31).2 (.returned (.tuple #[.int .i64 0, .int .i64 er])) wr) := LGets.late ⟨0, er, S1, F1, rfl, by unfold I64; omega, HQ.out.2.res, fun e => absurd e he, fun _ => rfl, HQ.out.2.ar, HQ.out.2.far, HQ.out.2.keep⟩ HB1.out
        clear he
        go_wp2_with fail
        go_ret2
        exact HE.out
    · have t1 : decide ((q : Int) > 0) = true := decide_eq_true (by omega)
      have t2 : decide (0 < q) = true := decide_eq_true (by omega)
      have t3 : decide ((0 : Int) < (q : Int)) = true := decide_eq_true (by omega)
      by_cases he : er = 0
      · subst he
        have hj30 : j ≤ 30 := by
          refine Classical.byContradiction fun hc => ?_
          have hp : 2 ^ 31 ≤ 2 ^ j := Nat.pow_le_pow_right (by omega) (by omega)
          have h0 : n / 2 ^ j = 0 := Nat.div_eq_of_lt (by omega)
          have := HQD.out
          omega
        have hs1 : IntKind.i64.wrap ((j : Int) + 1) = (j : Int) + 1 := by rw [IntKind.wrap_i64]; omega
        have htb := Nat.testBit_eq_decide_div_mod_eq (x := n) (i := j)
        rw [← HQD.out] at htb
        have HTB := Lib.hid htb
        clear htb hq0
        by_cases hbit : q % 2 = 1
        · have a1 : bits .and .i64 (q : Int) 1 = 1 := by rw [and_one_i64]; omega
          have hb : n.testBit j = true := by rw [HTB.out]; exact decide_eq_true hbit
          have hr : wr.heap[rb]? = some (.cells #[.int .i64 B, .int .i64 Lv] 23 (0, 0)) := (HQ.out.2.keep.block rb HRF.out.2 HRF.out.1).trans HR1.out
          have l1 : wr.cell? ⟨rb, 0, none⟩ = some (.int .i64 B) := Joins.cell_of_block hr 0
          have l2 : wr.cell? ⟨rb, 1, none⟩ = some (.int .i64 Lv) := Joins.cell_of_block hr 1
          have HC := Lib.hid (leap_by HRES b t S1 F1 B Lv (stepT B Lv n l0 T0 j).1 j (stepT B Lv n l0 T0 j).2 id1 wr HQ.out.2.ar HQ.out.2.res.wf (HQ.out.2.res.notes HW.out.2) ht HGB.out hj30 (HQ.out.2.den rfl) (HLEV.out j hb).1 (HLEV.out j hb).2 (fun th hth => HU.out th (.inr ⟨j, hb, hth⟩)))
          have HB := Lib.hid hb
          clear hr hb hbit
          go_wp2_with fail
          with_reducible refine HC.out.mono ?_
          rintro e w4 ⟨r, er, S2, F3, rfl, g1, g2, g3, g4, g5, g6, g7⟩
          have HN : Aside (StSt U B Lv n l0 T0 V F b t S (j + 1) r er S2 F3 w4) := ⟨g5, HQ.out.2.res.trans g2, fun e => by rw [stepT_bit HB.out]; exact g3 e, g1, fun i hi => by
            rcases g6 i hi with e | e
            · exact HQ.out.2.far i e
            · exact .inr (Nat.le_trans HQ.out.2.keep.size e), HQ.out.2.keep.step g7 HQ.out.2.far⟩
          clear g1 g2 g3 g4 g5 g6 g7
          go_wp2_with fail
          go_roundw
          case rel => exact ⟨j + 1, r, er, S2, F3, rfl, rfl, by go_num, by omega, HN.out⟩
          case measure => simp [intOf]; omega
        · have a1 : bits .and .i64 (q : Int) 1 = 0 := by rw [and_one_i64]; omega
          have hb : n.testBit j = false := by rw [HTB.out]; exact decide_eq_false hbit
          have HN : Aside (StSt U B Lv n l0 T0 V F b t S (j + 1) id1 0 S1 F1 wr) := ⟨HQ.out.2.ar, HQ.out.2.res, fun e => by rw [stepT_skip hb]; exact HQ.out.2.den e, HQ.out.2.i64, HQ.out.2.far, HQ.out.2.keep⟩
          clear hb hbit
          go_wp2_with fail
          go_roundw
          case rel => exact ⟨j + 1, id1, 0, S1, F1, rfl, rfl, by go_num, by omega, HN.out⟩
          case measure => simp [intOf]; omega
      · have v1 : (er == 0) = false := by simpa using he
        have v2 : (er != 0) = true := by simpa using he
        have HE : Aside (LGets U w F b t S (stepT B Lv n l0 T0 31).1 (stepT B Lv n l0 T0 31).2 (.returned (.tuple #[.int .i64 0, .int .i64 er])) wr) := LGets.late ⟨0, er, S1, F1, rfl, by unfold I64; omega, HQ.out.2.res, fun e => absurd e he, fun _ => rfl, HQ.out.2.ar, HQ.out.2.far, HQ.out.2.keep⟩ HB1.out
        clear he hq0
        go_wp2_with fail
        go_ret2
        exact HE.out
end Go.Proofs.Ytabhpbkkjijfjaa
