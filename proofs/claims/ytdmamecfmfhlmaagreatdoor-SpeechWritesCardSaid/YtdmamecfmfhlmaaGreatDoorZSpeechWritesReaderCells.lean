/-
  The program's reader: cells to the end.
-/
import Derived.Test.YtdmamecfmfhlmaaGreatDoorZSpeechWritesReader
import Derived.Test.YtdmamecfmfhlmaaGreatDoorZSpeechWritesAskMath
namespace Go.Proofs.YtdmamecfmfhlmaaGreatDoor
set_option maxRecDepth 100000
open Go.RowKit

theorem infoCellR : (Tryz.prog.info? 35).map (fun i => (i.zero, i.size, i.bytes)) = some (some (.agg #[.int .i64 0, .int .i64 0]), 2, 16) := by kernel_rfl
/-- Cells in memory of one's own. -/
def CellsAt (base : Nat) (w : World) (v : Value) (zs : List (Int × Int)) : Prop := Row w 35 2 v zs.length (zs.flatMap encCell) ∧ ∀ g, v.ownBlock = some g → base ≤ g
theorem CellsAt.nil (base : Nat) (w : World) : CellsAt base w (.slice none 0 0) [] := ⟨Row.nil _ _ _, fun g h => by simp [Value.ownBlock] at h⟩
theorem CellsAt.keepP {base p : Nat} {w w' : World} {v : Value} {zs : List (Int × Int)} (h : CellsAt base w v zs) {cs : Array Value} (hb : w.heap[p]? = some (.cells cs 47 (0, 0))) (hk : Keeps (fun i => i = p) w w') : CellsAt base w' v zs :=
  ⟨h.1.keep (fun g hg => hk.block g (h.1.lt g hg) (fun e => h.1.ne_type hb (by decide) (by rw [hg, e]))), h.2⟩
theorem Rd.blk {w : World} {p : Nat} {ts : List (List UInt8)} {bad : Bool} (h : Rd w p ts bad) : ∃ cs : Array Value, w.heap[p]? = some (.cells cs 47 (0, 0)) := by obtain ⟨v, h1, _⟩ := h; exact ⟨_, h1⟩
/-- The reader lies still where other rows are written. -/
theorem Rd.grown {w w' : World} {p base : Nat} {ts : List (List UInt8)} {bad : Bool} {v : Value} {zs : List (Int × Int)} (h : Rd w p ts bad) (hc : CellsAt base w v zs) (hg : w.grownBy w' v.ownBlock) : Rd w' p ts bad := by
  obtain ⟨u, h1, h2⟩ := h
  have k : ∀ (g : Nat) (e : TypeId) (cs : Array Value), w.heap[g]? = some (.cells cs e (0, 0)) → e ≠ 35 → w'.heap[g]? = w.heap[g]? := fun g e cs hb he =>
    hg.block g (lt_of_block hb) (fun e2 => hc.1.ne_type hb (Ne.symm he) e2.symm)
  refine ⟨u, (k p _ _ h1 (by decide)).trans h1, h2.keep fun g hg2 => ?_⟩
  obtain ⟨cur, hcur⟩ := h2.typed g hg2
  exact k g _ _ hcur (by decide)
/-- Where the reader of cells stands. -/
def CellsSt (ts0 : List (List UInt8)) (bad0 : Bool) (ts : List (List UInt8)) (bad : Bool) (zs : List (Int × Int)) : Prop :=
  (bad = true ∧ (bad0 = true ∨ ts0.all cellOk = false)) ∨ (bad0 = false ∧ bad = false ∧ ∃ d, ts0 = d ++ ts ∧ d.all cellOk = true ∧ zs = d.map cellV)
theorem CellsSt.start (ts : List (List UInt8)) (bad : Bool) : CellsSt ts bad ts bad [] := by
  cases bad with
  | true => exact .inl ⟨rfl, .inl rfl⟩
  | false => exact .inr ⟨rfl, rfl, [], rfl, rfl, rfl⟩
theorem CellsSt.next {ts0 r : List (List UInt8)} {bad0 : Bool} {t : List UInt8} {zs : List (Int × Int)} (h : CellsSt ts0 bad0 (t :: r) false zs) (z : Int × Int) (hz : cellOk t = true → z = cellV t) : CellsSt ts0 bad0 r (!cellOk t) (zs ++ [z]) := by
  rcases h with ⟨h, -⟩ | ⟨h1, -, d, h2, h3, h4⟩
  · cases h
  · cases hc : cellOk t with
    | true =>
      refine .inr ⟨h1, rfl, d ++ [t], by rw [h2, List.append_assoc]; rfl, by rw [List.all_append, h3]; simp [hc], by rw [h4, hz hc, List.map_append]; rfl⟩
    | false =>
      refine .inl ⟨rfl, .inr ?_⟩
      rw [h2, List.all_append, List.all_cons, hc]
      simp
theorem CellsSt.ends {ts0 ts : List (List UInt8)} {bad0 bad : Bool} {zs : List (Int × Int)} (h : CellsSt ts0 bad0 ts bad zs) (he : ts = [] ∨ bad = true) : readC ts0 bad0 ts bad zs := by
  rcases h with h | ⟨h1, h2, d, h3, h4, h5⟩
  · exact .inl h
  · rcases he with rfl | he
    · rw [List.append_nil] at h3
      subst h3
      exact .inr ⟨h1, h2, rfl, h4, h5⟩
    · rw [h2] at he; cases he
theorem Fits.drop {ts : List (List UInt8)} (h : Fits ts) (d r : List (List UInt8)) (e : ts = d ++ r) : Fits r := fun t ht => h t (by rw [e]; exact List.mem_append_right _ ht)
theorem cutAns_len (t : List UInt8) (c : UInt8) : (cutAns t c).1.length ≤ t.length ∧ (cutAns t c).2.1.length ≤ t.length := by
  rcases cutL_index c t with ⟨h1, h2⟩ | ⟨i, h1, hi, h2⟩
  · unfold cutAns; rw [h2]; exact ⟨Nat.le_refl _, Nat.zero_le _⟩
  · unfold cutAns; rw [h2]; simp only [List.length_take, List.length_drop]; omega
/-- How many words a reader has left. -/
def leftN (w : World) (p : Nat) : Nat := match w.cell? ⟨p, 0, none⟩ with
  | some (.slice _ n _) => n
  | _ => 0
theorem leftN_rd {w : World} {p : Nat} {ts : List (List UInt8)} {bad : Bool} (h : Rd w p ts bad) : leftN w p = ts.length := by
  obtain ⟨v, h1, h2⟩ := h
  obtain ⟨a, c, rfl, -⟩ := h2.form
  unfold leftN
  rw [Joins.cell_of_block h1 0]; rfl
theorem CellsAt.setP {base p i : Nat} {w : World} {v : Value} {zs : List (Int × Int)} (h : CellsAt base w v zs) {cs : Array Value} (hb : w.heap[p]? = some (.cells cs 47 (0, 0))) (u : Value) : CellsAt base (w.setCell ⟨p, i, none⟩ u) v zs :=
  ⟨h.1.keep (fun g hg => Below.heap_setCell _ _ _ _ (fun e => h.1.ne_type hb (by decide) (by rw [hg, e]))), h.2⟩
theorem CellsAt.below {base : Nat} {w w' : World} {v : Value} {zs : List (Int × Int)} (h : CellsAt base w v zs) (hb : Below w.heap.size w w') : CellsAt base w' v zs := ⟨h.1.keep (fun g hg => hb.block g (h.1.lt g hg)), h.2⟩
set_option maxHeartbeats 4000000 in
theorem readCells_any (p : Nat) (ts : List (List UInt8)) (bad : Bool) (w : World) (h : Rd w p ts bad) (hf : Fits ts) (hn : ts.length ≤ 10000) :
    Calls Tryz.prog 24 #[.pointer (some ⟨p, 0, none⟩)] w fun e w' => ∃ v ts' bad' zs, e = .returned v ∧ Rd w' p ts' bad' ∧ CellsAt w.heap.size w' v zs ∧ readC ts bad ts' bad' zs ∧ Keeps (fun i => i = p) w w' := by
  obtain ⟨i0, hi, hz0, hz1, hz2⟩ := info_parts infoCellR
  have hpl : p < w.heap.size := by obtain ⟨v, h1, _⟩ := h; exact lt_of_block h1
  have H := Lib.hid h
  have HF := Lib.hid hf
  clear h hf
  go_enter Tryz.func24, Tryz.ntmps24
  go_wp2_with fail
  go_loopw [3, 4, 5, 6, 7, 8, 9, 10] (fun lv _ _ _ _ _ _ _ wr => ∃ ts' bad' zs, Aside (Rd wr p ts' bad') ∧ Aside (CellsAt w.heap.size wr lv zs) ∧ Aside (CellsSt ts bad ts' bad' zs) ∧ Aside (Fits ts') ∧ zs.length + ts'.length ≤ 10000 ∧ Keeps (fun i => i = p) w wr) (fun _ _ _ _ _ _ _ _ wr => leftN wr p)
  case atStart =>
    exact ⟨ts, bad, [], H.out, CellsAt.nil _ _, CellsSt.start ts bad, HF.out, by simpa using hn, Keeps.refl _ _⟩
  case round =>
    obtain ⟨ts', bad', zs, HR, HC, HS, HT, hL, hK⟩ := hrel
    have HK := Lib.hid hK
    have hws := hK.size
    obtain ⟨v, hb, hr⟩ := HR.out
    have hl := leftN_rd HR.out
    obtain ⟨a, c, rfl, -⟩ := hr.form
    obtain ⟨n, hnn⟩ : ∃ n, n = ts'.length := ⟨_, rfl⟩
    rw [← hnn] at hb hL hl
    have p0 := Joins.cell_of_block hb 0
    have p1 := Joins.cell_of_block hb 1
    simp at p0 p1
    obtain ⟨m, hm⟩ : ∃ m, m = zs.length := ⟨_, rfl⟩
    have hrow0 := HC.out.1
    rw [← hm] at hrow0 hL
    obtain ⟨va, vc, rfl, -⟩ := hrow0.form
    have HB := Lib.hid hb
    have HM := Lib.hid hm
    have HNN := Lib.hid hnn
    have HLL := Lib.hid hl
    clear hb hr hK hrow0 hm hnn hl
    by_cases hz : n = 0
    · subst hz
      go_wp2_with fail
      go_ret
      refine ⟨_, ts', bad', zs, rfl, HR.out, HC.out, HS.out.ends (.inl ?_), HK.out⟩
      exact List.length_eq_zero_iff.1 HNN.out.symm
    · cases bad' with
      | true =>
        have t1 : decide ((n : Int) > 0) = true := decide_eq_true (by omega)
        have t2 : decide (0 < n) = true := decide_eq_true (by omega)
        go_wp2_with fail
        go_ret
        exact ⟨_, ts', true, zs, rfl, HR.out, HC.out, HS.out.ends (.inr rfl), HK.out⟩
      | false =>
        obtain ⟨t, r, htr⟩ : ∃ t r, ts' = t :: r := List.exists_cons_of_length_pos (by have := HNN.out; omega)
        subst htr
        have hrl : r.length + 1 = n := by have := HNN.out; rw [List.length_cons] at this; omega
        have htl : t.length ≤ 6000 := HT.out t (by simp)
        have t1 : decide ((n : Int) > 0) = true := decide_eq_true (by omega)
        have t2 : decide (0 < n) = true := decide_eq_true (by omega)
        have HW := Lib.hid (word_any p (t :: r) false wr HR.out)
        rw [List.isEmpty_cons, Bool.or_false, List.headD_cons, List.tail_cons] at HW
        obtain ⟨T, hT⟩ : ∃ T, T = txt t := ⟨_, rfl⟩
        have HCUT := Lib.hid (fun w1 => cut_any t 44 w1 (by omega))
        have hle := cutAns_len t 44
        obtain ⟨hcp1, hcp2⟩ := cut_pair t
        obtain ⟨⟨X, Y, K⟩, hXYK⟩ : ∃ z, z = cutAns t 44 := ⟨_, rfl⟩
        rw [← hXYK] at HCUT hle hcp1 hcp2
        dsimp only at HCUT hle hcp1 hcp2
        have HNX := Lib.hid (fun w1 => number_any X w1 (by omega))
        have HNY := Lib.hid (fun w1 => number_any Y w1 (by omega))
        unfold numA at HNX HNY
        obtain ⟨x, hx⟩ : ∃ x, x = (if okS X = true then valS X else 0) := ⟨_, rfl⟩
        obtain ⟨y, hy⟩ : ∃ y, y = (if okS Y = true then valS Y else 0) := ⟨_, rfl⟩
        rw [← hx] at HNX
        rw [← hy] at HNY
        have hzv : cellOk t = true → (x, y) = cellV t := fun e => by
          rw [hcp1] at e
          simp only [Bool.and_eq_true] at e
          rw [hcp2 (by rw [hcp1, e.1.1, e.1.2, e.2]; rfl), hx, hy, e.1.2, e.2]; rfl
        obtain ⟨BX, hBX⟩ : ∃ b, b = okS X := ⟨_, rfl⟩
        obtain ⟨BY, hBY⟩ : ∃ b, b = okS Y := ⟨_, rfl⟩
        rw [← hBX] at HNX hcp1
        rw [← hBY] at HNY hcp1
        obtain ⟨SX, hSX⟩ : ∃ s, s = txt X := ⟨_, rfl⟩
        obtain ⟨SY, hSY⟩ : ∃ s, s = txt Y := ⟨_, rfl⟩
        rw [← hT, ← hSX, ← hSY] at HCUT
        rw [← hT] at HW
        rw [← hSX] at HNX
        rw [← hSY] at HNY
        have HNEXT := Lib.hid (HS.out.next (x, y) hzv)
        have HCP := Lib.hid hcp1
        clear hT hXYK hx hy hBX hBY hSX hSY hle hcp1 hcp2 hzv htl
        have h44 : (txt [44]) = ({ data := #[44] } : ByteArray) := rfl
        rw [h44] at HCUT
        clear h44
        go_wp2_with fail
        refine HW.out.mono ?_
        rintro e w1 ⟨rfl, r1, k1⟩
        have R1 := Lib.hid r1
        obtain ⟨cs0, hcs0⟩ := HR.out.blk
        have K1 := Lib.hid k1
        have C1 := Lib.hid (HC.out.keepP hcs0 k1)
        have s1 := k1.size
        clear r1 k1 hcs0
        go_wp2_with fail
        refine (HCUT.out w1).mono ?_
        rintro e w2 ⟨rfl, b2⟩
        have R2 := Lib.hid (R1.out.below b2)
        have K2 := Lib.hid (K1.out.below b2)
        have C2 := Lib.hid (C1.out.below b2)
        have s2 := b2.size
        clear b2
        go_wp2_with fail
        refine (HNX.out w2).mono ?_
        rintro e w3 ⟨rfl, b3⟩
        have R3 := Lib.hid (R2.out.below b3)
        have K3 := Lib.hid (K2.out.below b3)
        have C3 := Lib.hid (C2.out.below b3)
        have s3 := b3.size
        clear b3
        go_wp2_with fail
        refine (HNY.out w3).mono ?_
        rintro e w4 ⟨rfl, b4⟩
        have R4 := Lib.hid (R3.out.below b4)
        have K4 := Lib.hid (K3.out.below b4)
        have C4 := Lib.hid (C3.out.below b4)
        have s4 := b4.size
        clear b4
        obtain ⟨v4, c0, c1, cf, cl, cs⟩ := rd_cells R4.out
        have CS := Lib.hid cs
        clear cs
        cases K <;> cases BX <;> cases BY
        all_goals
          go_upto_region 7 with fail
          obtain ⟨Z, hZ⟩ : ∃ Z, Z = w4.setCell ⟨p, 1, none⟩ (.bool (!cellOk t)) := ⟨_, rfl⟩
          have hZ' := hZ
          rw [HCP.out] at hZ'
          simp only [Bool.and_false, Bool.and_true, Bool.false_and, Bool.true_and, Bool.not_false, Bool.not_true] at hZ'
          rw [← hZ']
          have RZ := Lib.hid (CS.out (!cellOk t))
          rw [← hZ] at RZ
          have hzs : Z.heap.size = w4.heap.size := by rw [hZ]; simp
          obtain ⟨cs4, hcs4⟩ := R4.out.blk
          have CZ := Lib.hid (C4.out.setP (i := 1) hcs4 (.bool (!cellOk t)))
          rw [← hZ] at CZ
          have KZ := Lib.hid ((HK.out.trans K4.out (fun _ _ h => h)).setCell (p := ⟨p, 1, none⟩) (fun _ => rfl) (.bool (!cellOk t)))
          rw [← hZ] at KZ
          have HZS := Lib.hid hzs
          clear hZ hZ' hcs4 hzs c0 c1 cf cl CS p0 p1
          have HRW := Lib.hid CZ.out.1
          rw [← HM.out] at HRW
          have hm2 : m ≤ 10000 := by omega
          go_wp2_with ((at_builtin; go_loud (refine wpList_append_row _ rfl (.tmp 60) (.tmp 64) 24 rfl 35 i0 _ 2 16 Tryz.underlying24 hi hz0 hz1 hz2 rfl (by omega) (.slice va m vc) m (zs.flatMap encCell) rfl (HRW.out.keep (fun g hg => Below.heap_alloc Z _ g (HRW.out.lt g hg))) ⟨Z.heap.size, 0, none⟩ 1 1 [.int .i64 x, .int .i64 y] rfl rfl (news_alloc Z _ _ rfl) (by simp [Value.oneCell']) (by omega) (by unfold maxLen; omega) (by omega) _ rfl ?_; intro g6 off cap w6 hrow6 hg6 hat6)))
          go_roundw
          case rel =>
            have hbA : Below Z.heap.size Z (Z.alloc (.cells #[.int .i64 x, .int .i64 y] 35 (0, 0))) := (Below.refl _ _).alloc (Nat.le_refl _) _
            have CA := CZ.out.below hbA
            refine ⟨r, !cellOk t, zs ++ [(x, y)], (RZ.out.below hbA).grown CA hg6, ⟨?_, ?_⟩, HNEXT.out, HT.out.tail, ?_, ?_⟩
            · rw [List.length_append, List.flatMap_append, ← HM.out]
              exact hrow6
            · intro q hq
              simp only [Value.ownBlock, Option.some.injEq] at hq
              subst hq
              rcases hat6 with h | h
              · exact CA.2 _ h
              · have h2 := HZS.out
                rw [h]; simp; omega
            · rw [List.length_append, ← HM.out]; simp only [List.length_singleton]; omega
            · exact ((KZ.out.alloc _).grown hg6 (fun q hq hlt => absurd (CA.2 q hq) (by omega)))
          case measure =>
            have hbA : Below Z.heap.size Z (Z.alloc (.cells #[.int .i64 x, .int .i64 y] 35 (0, 0))) := (Below.refl _ _).alloc (Nat.le_refl _) _
            have h1 := leftN_rd ((RZ.out.below hbA).grown (CZ.out.below hbA) hg6)
            have h2 := HLL.out
            rw [h1, h2]
            omega
end Go.Proofs.YtdmamecfmfhlmaaGreatDoor
