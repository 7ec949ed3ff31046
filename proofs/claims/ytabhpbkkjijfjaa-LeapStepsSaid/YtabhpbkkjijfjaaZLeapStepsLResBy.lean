/-
  leap's result: one round of it.
-/
import Derived.Test.YtabhpbkkjijfjaaZLeapSteps38
namespace Go.Proofs.Ytabhpbkkjijfjaa
set_option maxRecDepth 100000
open Go.RowKit

theorem dem_note {b l : Int} {n j : Nat} {T : Tree} : Dem b l n j T (.note T (codeR b l) j) := by
  cases n with
  | zero => exact .inr rfl
  | succ n => exact .inl rfl
theorem LState.lat {w w4 : World} {F1 F2 : Nat → Prop} {lb b t : Nat} {B Lv bad : Int} {S1 : ArS} (h : LState w F1 lb b t B Lv S1 bad F2 w4) : LAt lb b t B Lv bad w4 := h.2.1
theorem LState.noted {w w4 w5 : World} {F1 F2 : Nat → Prop} {lb b t : Nat} {B Lv : Int} {S1 S2 : ArS} (h : LState w F1 lb b t B Lv S1 0 F1 w4) (hn : ¬ F1 lb) (h2 : IsAr b S2 w5 F2) (h3 : ∀ i, F2 i → F1 i ∨ w4.heap.size ≤ i) (h4 : Keeps F1 w4 w5) : LState w F1 lb b t B Lv S2 0 F2 w5 :=
  h.trans ⟨h2, h.2.1.keep (h4.block lb h.2.1.lt hn), h3, h4.mono fun _ _ e => .inl e⟩
theorem LState.failed {w w5 w6 : World} {F1 F2 : Nat → Prop} {lb b t : Nat} {B Lv : Int} {S2 : ArS} (h : LState w F1 lb b t B Lv S2 0 F2 w5) (hn : ¬ F2 lb) (er : Int) (hw : w6 = if (0 : Int) = 0 then w5.setCell ⟨lb, 4, none⟩ (.int .i64 er) else w5) : LState w F1 lb b t B Lv S2 er F2 w6 := by
  rw [if_pos rfl] at hw
  subst hw
  exact ⟨h.1.keep (G := fun i => i = lb) (Keeps.setCell (p := ⟨lb, 4, none⟩) (Keeps.refl (fun i => i = lb) w5) (fun _ => rfl) _) (fun i hi e => hn (by rw [← e]; exact hi)), h.2.1.set er, h.2.2.1, h.2.2.2.setCell (p := ⟨lb, 4, none⟩) (fun _ => .inr rfl) _⟩
set_option maxHeartbeats 8000000 in
set_option maxRecDepth 100000 in
/-- result, where its working out makes the square's middle. -/
theorem result_by {n : Nat} (hn2 : n + 2 ≤ 44) (U : Th → Prop) (lb b t : Nat) (B Lv bad : Int) (S : ArS) (F : Nat → Prop) (id : Int) (T : Tree) (j : Nat) (w : World) (h : IsAr b S w F) (wf : Wf S.L) (hnote : NoteI S.L) (hh : LAt lb b t B Lv bad w) (hn : ¬ F lb) (ht : t < 64) (hB : 0 ≤ B ∧ B < 512 ∧ 0 ≤ Lv ∧ Lv < 512) (hj : j ≤ n) (hd : bad = 0 → Den S.L t (n + 2) T id) (hid : I64 id) (hU : ∀ th, Dem B Lv n j T th → U th)
    (hwork : bad = 0 → ∀ W, IsAr b S W F → LAt lb b t B Lv 0 W → (n = 0 → Calls Try.prog 51 #[.pointer (some ⟨lb, 0, none⟩), .agg (rArr (gN S t 0 id))] W (LMut W F lb b t B Lv (LMade U t S 0 (n + 1) (leapT B Lv n j T)))) ∧ (n ≠ 0 → Calls Try.prog 52 #[.pointer (some ⟨lb, 0, none⟩), .agg (rArr (gN S t 0 id)), .int .i64 ((n + 2 : Nat) : Int), .int .i64 (j : Int)] W (LMut W F lb b t B Lv (LMade U t S 0 (n + 1) (leapT B Lv n j T))))) :
    Calls Try.prog 33 #[.pointer (some ⟨lb, 0, none⟩), .int .i64 id, .int .i64 ((n + 2 : Nat) : Int), .int .i64 (j : Int)] w (LMut w F lb b t B Lv (LMade U t S bad (n + 1) (leapT B Lv n j T))) := by
  have hlt := hh.lt
  have c4 := hh.c4
  obtain ⟨lv, hlv⟩ : ∃ l, l = n + 2 := ⟨_, rfl⟩
  rw [← hlv] at hwork ⊢
  have HI := Lib.hid h
  have HH := Lib.hid hh
  by_cases hbad : bad = 0
  · subst hbad
    have hden := hd rfl
    have hwk := hwork rfl
    obtain ⟨cd, hcd⟩ : ∃ c, c = codeR B Lv := ⟨_, rfl⟩
    have hcd64 : I64 cd := by rw [hcd]; unfold codeR I64; omega
    obtain ⟨rv, hrv⟩ : ∃ v, v = recallA S t id cd j := ⟨_, rfl⟩
    have hj64 : I64 (j : Int) := by unfold I64; omega
    have hkeep : ∀ W, Below w.heap.size w W → W.cell? ⟨lb, 0, none⟩ = some (.pointer (some ⟨b, 0, none⟩)) ∧ W.cell? ⟨lb, 1, none⟩ = some (.int .i64 t) ∧ W.cell? ⟨lb, 2, none⟩ = some (.int .i64 B) ∧ W.cell? ⟨lb, 3, none⟩ = some (.int .i64 Lv) := fun W hb => ⟨(hb.cell (p := ⟨lb, 0, none⟩) hlt).trans hh.c0, (hb.cell (p := ⟨lb, 1, none⟩) hlt).trans hh.c1, (hb.cell (p := ⟨lb, 2, none⟩) hlt).trans hh.c2, (hb.cell (p := ⟨lb, 3, none⟩) hlt).trans hh.c3⟩
    have HKEEP := Lib.hid hkeep
    have HD := Lib.hid (show Below w.heap.size w w.drew from (Below.refl _ w).drew)
    have HC := Lib.hid (fun W (hb : Below w.heap.size w W) => (lcode_any B Lv hB.1 hB.2.1 hB.2.2.1 hB.2.2.2 W).mono (fun e w' (k : e = .returned (.int .i64 (codeR B Lv)) ∧ Below W.heap.size W w') => (show e = .returned (.int .i64 cd) ∧ Below w.heap.size w w' from ⟨by rw [hcd]; exact k.1, hb.trans (k.2.mono hb.size)⟩)))
    have HR := Lib.hid (fun W (hb : Below w.heap.size w W) => (recall_any b S F t id cd j W (h.below hb) hid hcd64 hj64).mono (fun e w' (k : e = .returned (.tuple #[.int .i64 (recallA S t id cd j).1, .bool (recallA S t id cd j).2]) ∧ w' = W) => (show e = .returned (.tuple #[.int .i64 rv.1, .bool rv.2]) ∧ Below w.heap.size w w' from ⟨by rw [hrv]; exact k.1, by rw [k.2]; exact hb⟩)))
    have HRV := Lib.hid hrv
    have HCD := Lib.hid hcd
    have HWK := Lib.hid hwk
    have HDEN := Lib.hid hden
    have HLV := Lib.hid hlv
    have HU := Lib.hid hU
    have HX := Lib.hid (show Wf S.L ∧ NoteI S.L ∧ I64 id ∧ I64 cd ∧ I64 (j : Int) ∧ j ≤ n ∧ (0 ≤ B ∧ B < 512 ∧ 0 ≤ Lv ∧ Lv < 512) from ⟨wf, hnote, hid, hcd64, hj64, hj, hB⟩)
    clear hwk hden hwork hd h hh hkeep hrv hcd wf hnote hid hcd64 hj64 hU hlv hB hj
    obtain ⟨rv1, rv2⟩ := rv
    simp only at HR
    go_enter Try.func33, Try.ntmps33
    go_upto_region 3 with fail
    go_cut [9, 10] from 19 to 36 (fun s9 s10 wx => s9 = .int .i64 rv1 ∧ s10 = .bool rv2 ∧ Aside (Below w.heap.size w wx))
    case first =>
      go_region_held3 (fun w' => w'.cell? ⟨lb, 0, none⟩ = some (.pointer (some ⟨b, 0, none⟩)) ∧ w'.cell? ⟨lb, 1, none⟩ = some (.int .i64 t) ∧ w'.cell? ⟨lb, 2, none⟩ = some (.int .i64 B) ∧ w'.cell? ⟨lb, 3, none⟩ = some (.int .i64 Lv)) (first | exact HKEEP.out _ HD.out | exact HKEEP.out _ HB2.out | exact HKEEP.out _ HB1.out) (first | (go_at_call 49; (with_reducible refine (HC.out _ HD.out).mono ?_); rintro e w1 ⟨rfl, hb1⟩; have HB1 := Lib.hid hb1) | (go_at_call 48; (with_reducible refine (HR.out _ HB1.out).mono ?_); rintro e w2 ⟨rfl, hb2⟩; have HB2 := Lib.hid hb2))
      all_goals
        go_wp2_with fail
        go_meet
        exact ⟨rfl, rfl, HB2.out⟩
    case rest =>
    obtain ⟨rfl, rfl, hbl⟩ := hcut
    have hh1 : LAt lb b t B Lv 0 wc := HH.out.keep (hbl.out.block lb hlt)
    cases rv2 with
    | true =>
      have HB := Lib.hid hbl.out
      clear hbl hh1
      go_wp2_with fail
      go_ret
      have hd1 := recall_den HX.out.1 HX.out.2.1 HX.out.2.2.2.2.2.2.1 HX.out.2.2.2.2.2.2.2.1 HX.out.2.2.2.2.2.2.2.2.1 HX.out.2.2.2.2.2.2.2.2.2 HX.out.2.2.2.2.2.1 HDEN.out (by rw [← HCD.out]; exact HRV.out.symm)
      exact ⟨S, 0, .int .i64 rv1, F, rfl, ⟨rv1, rfl, hd1.i64 HI.out.ok, LRes.refl HX.out.1, fun _ => hd1⟩, (LState.refl HI.out HH.out).below HB.out⟩
    | false =>
      have HG := Lib.hid (lgrid_tree lb b t n B Lv 0 S F id T wc (HI.out.below hbl.out) hh1 hn ht (fun _ => HDEN.out))
      have HL0 := Lib.hid (show LState w F lb b t B Lv S 0 F wc from (LState.refl HI.out HH.out).below hbl.out)
      obtain ⟨g, hg⟩ : ∃ g, g = gN S t 0 id := ⟨_, rfl⟩
      rw [← hg] at HG HWK
      unfold rArr at HG
      clear hbl hh1 hg
      go_upto_region 6 with fail
      go_wp2_with fail
      refine HG.out.mono ?_
      rintro e w2 hrd
      have hl2 := HL0.out.trans (LRead.state HL0.out.1 hn hrd)
      obtain ⟨rfl, _, _⟩ := hrd
      have HL2 := Lib.hid hl2
      obtain ⟨gb, hgb⟩ : ∃ q, q = w2.heap.size := ⟨_, rfl⟩
      obtain ⟨X, hX⟩ : ∃ X, X = w2.alloc (.cells (rArr g) 99 (0, 0)) := ⟨_, rfl⟩
      have hbX : Below w2.heap.size w2 X := by rw [hX]; exact (Below.refl _ _).alloc (Nat.le_refl _) _
      have hgx : X.heap[gb]? = some (.cells (rArr g) 99 (0, 0)) := by rw [hX, hgb]; exact blk_last w2 _ rfl
      have e0 : X.cell? ⟨gb, 0, none⟩ = some (.int .i64 (g 0 0)) := Joins.cell_of_block hgx 0
      have e1 : X.cell? ⟨gb, 1, none⟩ = some (.int .i64 (g 0 1)) := Joins.cell_of_block hgx 1
      have e2 : X.cell? ⟨gb, 2, none⟩ = some (.int .i64 (g 0 2)) := Joins.cell_of_block hgx 2
      have e3 : X.cell? ⟨gb, 3, none⟩ = some (.int .i64 (g 0 3)) := Joins.cell_of_block hgx 3
      have e4 : X.cell? ⟨gb, 4, none⟩ = some (.int .i64 (g 1 0)) := Joins.cell_of_block hgx 4
      have e5 : X.cell? ⟨gb, 5, none⟩ = some (.int .i64 (g 1 1)) := Joins.cell_of_block hgx 5
      have e6 : X.cell? ⟨gb, 6, none⟩ = some (.int .i64 (g 1 2)) := Joins.cell_of_block hgx 6
      have e7 : X.cell? ⟨gb, 7, none⟩ = some (.int .i64 (g 1 3)) := Joins.cell_of_block hgx 7
      have e8 : X.cell? ⟨gb, 8, none⟩ = some (.int .i64 (g 2 0)) := Joins.cell_of_block hgx 8
      have e9 : X.cell? ⟨gb, 9, none⟩ = some (.int .i64 (g 2 1)) := Joins.cell_of_block hgx 9
      have e10 : X.cell? ⟨gb, 10, none⟩ = some (.int .i64 (g 2 2)) := Joins.cell_of_block hgx 10
      have e11 : X.cell? ⟨gb, 11, none⟩ = some (.int .i64 (g 2 3)) := Joins.cell_of_block hgx 11
      have e12 : X.cell? ⟨gb, 12, none⟩ = some (.int .i64 (g 3 0)) := Joins.cell_of_block hgx 12
      have e13 : X.cell? ⟨gb, 13, none⟩ = some (.int .i64 (g 3 1)) := Joins.cell_of_block hgx 13
      have e14 : X.cell? ⟨gb, 14, none⟩ = some (.int .i64 (g 3 2)) := Joins.cell_of_block hgx 14
      have e15 : X.cell? ⟨gb, 15, none⟩ = some (.int .i64 (g 3 3)) := Joins.cell_of_block hgx 15
      have HLX := Lib.hid (hl2.below hbX)
      have hwx := HWK.out X HLX.out.1 HLX.out.2.1
      unfold rArr at hX hwx
      have HXE := Lib.hid hX
      have HGB := Lib.hid hgb
      have HW := Lib.hid hwx
      clear hl2 hX hgb hbX hgx hwx
      go_upto_region 7 with fail
      rw [← HXE.out, ← HGB.out]
      obtain ⟨tb, htb⟩ : ∃ c : Bool, c = decide (n = 0) := ⟨_, rfl⟩
      have t1 : ((lv : Int) == 2) = tb := by rw [htb, HLV.out]; by_cases e : n = 0 <;> simp [e] <;> omega
      have t2 : (lv == 2) = tb := by rw [htb, HLV.out]; by_cases e : n = 0 <;> simp [e]
      have HTB := Lib.hid htb
      clear htb
      go_upto_if 43 with fail
      go_cut [12] from 44 to 51 (fun s12 wx => ∃ (r : Int) (S1 : ArS) (b1 : Int) (F1 : Nat → Prop), s12 = .int .i64 r ∧ Aside (I64 r ∧ LRes U t S S1 0 b1 ∧ (b1 = 0 → Den S1.L t (n + 1) (leapT B Lv n j T) r) ∧ LState w F lb b t B Lv S1 b1 F1 wx))
      case first =>
        cases tb with
        | true =>
          have hn0 : n = 0 := of_decide_eq_true HTB.out.symm
          have HS := Lib.hid ((HW.out).1 hn0)
          go_wp2_with fail
          refine HS.out.mono ?_
          rintro e w3 ⟨S1, b1, v, F1, rfl, ⟨r, rfl, hr, hres, hdn⟩, hst⟩
          have HQ : Aside (I64 r ∧ LRes U t S S1 0 b1 ∧ (b1 = 0 → Den S1.L t (n + 1) (leapT B Lv n j T) r) ∧ LState w F lb b t B Lv S1 b1 F1 w3) := ⟨hr, hres, hdn, HLX.out.trans hst⟩
          clear hr hres hdn hst
          go_wp2_with fail
          go_meet
          exact ⟨r, S1, b1, F1, rfl, HQ⟩
        | false =>
          have hn0 : ¬ n = 0 := of_decide_eq_false HTB.out.symm
          have HS := Lib.hid ((HW.out).2 hn0)
          go_wp2_with fail
          refine HS.out.mono ?_
          rintro e w3 ⟨S1, b1, v, F1, rfl, ⟨r, rfl, hr, hres, hdn⟩, hst⟩
          have HQ : Aside (I64 r ∧ LRes U t S S1 0 b1 ∧ (b1 = 0 → Den S1.L t (n + 1) (leapT B Lv n j T) r) ∧ LState w F lb b t B Lv S1 b1 F1 w3) := ⟨hr, hres, hdn, HLX.out.trans hst⟩
          clear hr hres hdn hst
          go_wp2_with fail
          go_meet
          exact ⟨r, S1, b1, F1, rfl, HQ⟩
      case rest =>
      obtain ⟨r, S1, b1, F1, rfl, hq⟩ := hcut
      obtain ⟨hr, hres, hdn, hst⟩ := hq.out
      clear e0 e1 e2 e3 e4 e5 e6 e7 e8 e9 e10 e11 e12 e13 e14 e15 HW HXE HGB HLX HG HL0 HL2 HWK
      have c5 := hst.2.1.c4
      by_cases hb1 : b1 = 0
      · subst hb1
        have hn1 := hst.out hn hlt
        have hlt1 := hst.2.1.lt
        have hh1 := hst.2.1
        have hkeep : ∀ W e, LAt lb b t B Lv e W → W.cell? ⟨lb, 0, none⟩ = some (.pointer (some ⟨b, 0, none⟩)) ∧ W.cell? ⟨lb, 1, none⟩ = some (.int .i64 t) ∧ W.cell? ⟨lb, 2, none⟩ = some (.int .i64 B) ∧ W.cell? ⟨lb, 3, none⟩ = some (.int .i64 Lv) := fun W e hl => ⟨hl.c0, hl.c1, hl.c2, hl.c3⟩
        have HKP := Lib.hid hkeep
        have HST := Lib.hid hst
        have HRS := Lib.hid hres
        have HDN := Lib.hid (hdn rfl)
        have HR64 := Lib.hid hr
        have HLC := Lib.hid (show LAt lb b t B Lv 0 wc.drew from hst.2.1.drew)
        have HCC := Lib.hid (fun W (hb : LState wc F1 lb b t B Lv S1 0 F1 W) => (lcode_any B Lv HX.out.2.2.2.2.2.2.1 HX.out.2.2.2.2.2.2.2.1 HX.out.2.2.2.2.2.2.2.2.1 HX.out.2.2.2.2.2.2.2.2.2 W).mono (fun e w' (k : e = .returned (.int .i64 (codeR B Lv)) ∧ Below W.heap.size W w') => (show e = .returned (.int .i64 cd) ∧ LState wc F1 lb b t B Lv S1 0 F1 w' from ⟨by rw [HCD.out]; exact k.1, hb.below k.2⟩)))
        have HD0 := Lib.hid (show LState wc F1 lb b t B Lv S1 0 F1 wc.drew from (LState.refl hst.1 hst.2.1).below (Below.refl _ wc).drew)
        have HNN := Lib.hid (fun W (hb : LState wc F1 lb b t B Lv S1 0 F1 W) => note_any b S1 F1 t id cd j r W hb.1 HX.out.2.2.1 HX.out.2.2.2.1 HX.out.2.2.2.2.1 hr)
        clear hkeep hst hres hdn hr hh1 hq
        have HN1 := Lib.hid hn1
        have HLT := Lib.hid (show lb < wc.heap.size from hlt1)
        clear hn1
        go_upto_region 12 with fail
        go_cut [] from 57 to 75 (fun wx => ∃ (er : Int) (S2 : ArS) (F2 : Nat → Prop), Aside (NoteR S1 t id cd j r er S2 ∧ LState wc F1 lb b t B Lv S2 er F2 wx))
        case first =>
          go_region_held3 (fun w' => w'.cell? ⟨lb, 0, none⟩ = some (.pointer (some ⟨b, 0, none⟩)) ∧ w'.cell? ⟨lb, 1, none⟩ = some (.int .i64 t) ∧ w'.cell? ⟨lb, 2, none⟩ = some (.int .i64 B) ∧ w'.cell? ⟨lb, 3, none⟩ = some (.int .i64 Lv)) (first | exact HKP.out _ _ HLC.out | exact HKP.out _ _ HS3.out.lat | exact HKP.out _ _ HS2.out.lat | exact HKP.out _ _ HS1.out.lat) (first | (go_at_call 49; (with_reducible refine (HCC.out _ HD0.out).mono ?_); rintro e w4 ⟨rfl, hc⟩; have HS1 := Lib.hid hc) | (go_at_call 54; (with_reducible refine (HNN.out _ HS1.out).mono ?_); rintro e w5 ⟨er, S2, F2, rfl, h1, h2, h3, h4⟩; have HN2 := Lib.hid h1; have HS2 := Lib.hid (HS1.out.noted HN1.out h2 h3 h4); clear h1 h2 h3 h4) | (go_at_call 53; (with_reducible refine (lfail_any lb b t B Lv 0 er _ HS2.out.lat).mono ?_); rintro e w6 ⟨rfl, hw6⟩; have HS3 := Lib.hid (HS2.out.failed (HS2.out.out HN1.out HLT.out) er hw6); clear hw6))
          all_goals
            go_wp2_with fail
            go_meet
            exact ⟨er, S2, F2, HN2.out, HS3.out⟩
        case rest =>
        obtain ⟨er, S2, F2, hq2⟩ := hcut
        have HQ2 := Lib.hid hq2.out
        clear hq2
        go_wp2_with fail
        go_ret
        have hnr := note_res (U := U) HST.out.1.ok HRS.out.wf (HRS.out.notes HX.out.2.1) ht HX.out.2.2.2.2.2.2.1 HX.out.2.2.2.2.2.2.2.1 HX.out.2.2.2.2.2.2.2.2.1 HX.out.2.2.2.2.2.2.2.2.2 HX.out.2.2.2.2.2.1 (HDEN.out.ext (HRS.out.ext t)) HDN.out (HU.out _ dem_note) (by rw [← HCD.out]; exact HQ2.out.1)
        exact ⟨S2, er, .int .i64 r, F2, rfl, ⟨r, rfl, HR64.out, HRS.out.trans hnr, fun _ => HDN.out.ext (hnr.ext t)⟩, HST.out.trans HQ2.out.2⟩
      · have HQ := Lib.hid hq.out
        have t3 : (b1 == 0) = false := by simpa using hb1
        clear hr hres hdn hst hq
        go_wp2_with fail
        go_ret
        exact ⟨S1, b1, .int .i64 r, F1, rfl, ⟨r, rfl, HQ.out.1, HQ.out.2.1, HQ.out.2.2.1⟩, HQ.out.2.2.2⟩
  · have g1 : (bad == 0) = false := by simpa using hbad
    have g2 : (bad != 0) = true := by simpa using hbad
    have HWF := Lib.hid wf
    clear h hh hwork hd hU wf hnote
    go_enter Try.func33, Try.ntmps33
    go_wp2_with fail
    go_ret
    exact ⟨S, bad, .int .i64 0, F, rfl, ⟨0, rfl, by unfold I64; omega, LRes.refl HWF.out, fun e => absurd e hbad⟩, LState.refl HI.out HH.out⟩
end Go.Proofs.Ytabhpbkkjijfjaa
