/-
  leap's large, where the step is as wide as can be.
-/
import Derived.Test.YtabhpbkkjijfjaaZLeapSteps38
namespace Go.Proofs.Ytabhpbkkjijfjaa
set_option maxRecDepth 100000
open Go.RowKit

set_option maxHeartbeats 16000000 in
set_option maxRecDepth 100000 in
theorem large_full {m : Nat} (hm : m + 3 ≤ 44) (IH : ResOk m) (U : Th → Prop) (lb b t : Nat) (B Lv : Int) (S : ArS) (F : Nat → Prop) (id : Int) (T : Tree) (w : World) (h : IsAr b S w F) (wf : Wf S.L) (hnote : NoteI S.L) (hh : LAt lb b t B Lv 0 w) (hn : ¬ F lb) (ht : t < 64) (hB : 0 ≤ B ∧ B < 512 ∧ 0 ≤ Lv ∧ Lv < 512) (hd : Den S.L t (m + 3) T id) (hU : ∀ th, Dem B Lv (m + 1) (m + 1) T th → U th) :
    Calls Try.prog 52 #[.pointer (some ⟨lb, 0, none⟩), .agg (rArr (gN S t 0 id)), .int .i64 ((m + 3 : Nat) : Int), .int .i64 (((m + 1) : Nat) : Int)] w (LMut w F lb b t B Lv (LMade U t S 0 (m + 2) (leapT B Lv (m + 1) (m + 1) T))) := by
  have hlt := hh.lt
  have hT : leapT B Lv (m + 1) (m + 1) T = .node ((fun k => leapT B Lv m m (sqG (fun y x => leapT B Lv m m (sqG (gridT T) y x)) (k / 2) (k % 2))) 0) ((fun k => leapT B Lv m m (sqG (fun y x => leapT B Lv m m (sqG (gridT T) y x)) (k / 2) (k % 2))) 1) ((fun k => leapT B Lv m m (sqG (fun y x => leapT B Lv m m (sqG (gridT T) y x)) (k / 2) (k % 2))) 2) ((fun k => leapT B Lv m m (sqG (fun y x => leapT B Lv m m (sqG (gridT T) y x)) (k / 2) (k % 2))) 3) := by
    show Tree.node _ _ _ _ = _
    simp only [↓reduceIte, Nat.add_sub_cancel] <;> rfl
  have hUl : U (.sq (.node ((fun k => leapT B Lv m m (sqG (fun y x => leapT B Lv m m (sqG (gridT T) y x)) (k / 2) (k % 2))) 0) ((fun k => leapT B Lv m m (sqG (fun y x => leapT B Lv m m (sqG (gridT T) y x)) (k / 2) (k % 2))) 1) ((fun k => leapT B Lv m m (sqG (fun y x => leapT B Lv m m (sqG (gridT T) y x)) (k / 2) (k % 2))) 2) ((fun k => leapT B Lv m m (sqG (fun y x => leapT B Lv m m (sqG (gridT T) y x)) (k / 2) (k % 2))) 3))) := by rw [← hT]; exact hU _ (.inr (.inl rfl))
  have hUs : ∀ y x, y < 3 → x < 3 → U (.sq (sqG (gridT T) y x)) := fun y x h1 h2 => hU _ (.inr (.inr (.inl ⟨y, x, h1, h2, .inl rfl⟩)))
  have hUr : ∀ y x, y < 3 → x < 3 → ∀ th, Dem B Lv m m (sqG (gridT T) y x) th → U th := fun y x h1 h2 th hth => hU _ (.inr (.inr (.inl ⟨y, x, h1, h2, .inr (by rw [if_pos rfl]; exact hth)⟩)))
  have hUq : ∀ y x, y < 2 → x < 2 → U (.sq (sqG (fun y x => leapT B Lv m m (sqG (gridT T) y x)) y x)) := fun y x h1 h2 => hU _ (.inr (.inr (.inr ⟨y, x, h1, h2, .inl (by simp only [↓reduceIte, Nat.add_sub_cancel])⟩)))
  have hUp : ∀ y x, y < 2 → x < 2 → ∀ th, Dem B Lv m m (sqG (fun y x => leapT B Lv m m (sqG (gridT T) y x)) y x) th → U th := fun y x h1 h2 th hth => hU _ (.inr (.inr (.inr ⟨y, x, h1, h2, .inr (by simp only [↓reduceIte, Nat.add_sub_cancel]; exact hth)⟩)))
  have g64 : ∀ y x, I64 (gN S t 0 id y x) := fun y x => gN_i64 h.ok (n := m + 1) ht (fun _ => hd) y x
  have gD : ∀ y x, Den S.L t (m + 1) (gridT T y x) (gN S t 0 id y x) := fun y x => gN_den (n := m + 1) ht hd y x
  obtain ⟨g, hg⟩ : ∃ g, g = gN S t 0 id := ⟨_, rfl⟩
  obtain ⟨X, hXe⟩ : ∃ X, X = (w.alloc (.cells (rArr g) 99 (0, 0))).alloc (.cells (nArr fun _ => 0) 113 (0, 0)) := ⟨_, rfl⟩
  have hbX : Below w.heap.size w X := by rw [hXe]; exact ((Below.refl _ _).alloc (Nat.le_refl _) _).alloc (by simp) _
  have h0 : LS U w F lb b t B Lv S g m (fun k => (fun y x => leapT B Lv m m (sqG (gridT T) y x)) (k / 3) (k % 3)) (fun k => leapT B Lv m m (sqG (fun y x => leapT B Lv m m (sqG (gridT T) y x)) (k / 2) (k % 2))) w.heap.size (fun _ => 0) (fun _ => 0) 0 0 S 0 F X := by
    refine ⟨(LState.refl h hh).below hbX, LRes.refl wf, ?_, ?_, fun e => absurd rfl e, ⟨fun e => ?_, fun e => ?_, fun e => ?_⟩, ⟨Nat.le_refl _, by omega, ?_⟩, fun _ => by unfold I64; omega, fun _ => by unfold I64; omega, fun _ k hk => absurd hk (Nat.not_lt_zero k), fun _ k hk => absurd hk (Nat.not_lt_zero k), hn, hlt⟩
    · rw [hXe, Below.heap_alloc _ _ _ (by simp)]; exact blk_last w _ rfl
    · rw [hXe, show w.heap.size + 1 = (w.alloc (.cells (rArr g) 99 (0, 0))).heap.size by simp]; exact blk_last _ _ rfl
    · have := h.lt _ e; omega
    · have := h.lt _ e; omega
    · have := h.lt _ e; omega
    · rw [hXe]; simp; omega
  rw [← hg] at g64 gD ⊢
  obtain ⟨l3, h3⟩ : ∃ l, l = m + 3 := ⟨_, rfl⟩
  obtain ⟨l2, h2⟩ : ∃ l, l = m + 2 := ⟨_, rfl⟩
  have e2 : (l3 : Int) - 1 = (l2 : Int) := by omega
  obtain ⟨j1, hj1⟩ : ∃ l, l = m + 1 := ⟨_, rfl⟩
  have e1 : (l3 : Int) - 2 = (j1 : Int) := by omega
  have e3 : (j1 : Int) - 1 = (m : Int) := by omega
  rw [hT, ← h3, ← hj1]
  have hl3 : l3 ≤ 44 := by omega
  have wl2 : IntKind.i64.wrap (l2 : Int) = (l2 : Int) := by rw [IntKind.wrap_i64]; omega
  have wm : IntKind.i64.wrap (m : Int) = (m : Int) := by rw [IntKind.wrap_i64]; omega
  have wr0 : IntKind.i64.wrap (0 + 1) = 1 := rfl
  have wr1 : IntKind.i64.wrap (1 + 1) = 2 := rfl
  have wr2 : IntKind.i64.wrap (2 + 1) = 3 := rfl
  have ws0 : IntKind.i64.wrap 1 = 1 := rfl
  have ws1 : IntKind.i64.wrap 2 = 2 := rfl
  have ws2 : IntKind.i64.wrap 3 = 3 := rfl
  obtain ⟨nv0, hnv0⟩ : ∃ f : Nat → Int, f = fun _ => 0 := ⟨_, rfl⟩
  have h1 : LS U w F lb b t B Lv S g m (fun k => (fun y x => leapT B Lv m m (sqG (gridT T) y x)) (k / 3) (k % 3)) (fun k => leapT B Lv m m (sqG (fun y x => leapT B Lv m m (sqG (gridT T) y x)) (k / 2) (k % 2))) w.heap.size nv0 (fun _ => 0) 0 0 S 0 F X := by rw [hnv0]; exact h0
  clear hnv0 h0
  have h0 := h1
  clear h1
  have HXE := Lib.hid hXe
  have HL0 := Lib.hid h0
  have HG64 := Lib.hid g64
  have HGD := Lib.hid gD
  have HUL := Lib.hid hUl
  have HUS := Lib.hid hUs
  have HUR := Lib.hid hUr
  have HUQ := Lib.hid hUq
  have HUP := Lib.hid hUp
  have HIH := Lib.hid IH
  have H2 := Lib.hid h2
  have HNT := Lib.hid hnote
  have HB := Lib.hid hB
  clear h wf hnote hh hT hU hUl hUs hUr hUq hUp g64 gD hg hXe hbX h0 IH hd h2 hB hj1 h3
  unfold rArr nArr at HXE
  unfold rArr
  go_enter Try.func52, Try.ntmps52
  go_upto_region 3 with fail
  rw [← HXE.out]
  go_wp2_with fail
  refine wp_loop_rounds 4 ?_
  rw [rounds_succ]
  go_wp2_with fail
  refine wp_loop_rounds 4 ?_
  rw [rounds_succ]
  have d0 : X.drew.cell? ⟨w.heap.size, 0, none⟩ = some (.int .i64 (g 0 0)) := HL0.out.cellG 0
  have d1 : X.drew.cell? ⟨w.heap.size, 1, none⟩ = some (.int .i64 (g 0 1)) := HL0.out.cellG 1
  have d2 : X.drew.cell? ⟨w.heap.size, 4, none⟩ = some (.int .i64 (g 1 0)) := HL0.out.cellG 4
  have d3 : X.drew.cell? ⟨w.heap.size, 5, none⟩ = some (.int .i64 (g 1 1)) := HL0.out.cellG 5
  have HJ0 := Lib.hid (ljoin_tree lb b t (m + 1) B Lv 0 S F (g 0 0) (g 0 1) (g 1 0) (g 1 1) (gridT T 0 0) (gridT T 0 1) (gridT T 1 0) (gridT T 1 1) X.drew HL0.out.ar HL0.out.res.wf HL0.out.at_ HL0.out.lbF ⟨HG64.out 0 0, HG64.out 0 1, HG64.out 1 0, HG64.out 1 1⟩ ht (by omega) (fun _ => ⟨(HGD.out 0 0).ext (HL0.out.res.ext t), (HGD.out 0 1).ext (HL0.out.res.ext t), (HGD.out 1 0).ext (HL0.out.res.ext t), (HGD.out 1 1).ext (HL0.out.res.ext t)⟩) (HUS.out 0 0 (by omega) (by omega)))
  have HC0 := Lib.hid (And.intro d0 (And.intro d1 (And.intro d2 d3)))
  clear d0 d1 d2 d3
  go_upto_region 9 with fail
  go_cut [13] from 29 to 54 (fun s13 wx => ∃ (s : Int) (A : ArS) (a : Int) (P : Nat → Prop), s13 = .int .i64 s ∧ Aside (I64 s ∧ (a = 0 → Den A.L t (m + 1 + 1) (sqG (gridT T) 0 0) s) ∧ LS U w F lb b t B Lv S g m (fun k => (fun y x => leapT B Lv m m (sqG (gridT T) y x)) (k / 3) (k % 3)) (fun k => leapT B Lv m m (sqG (fun y x => leapT B Lv m m (sqG (gridT T) y x)) (k / 2) (k % 2))) w.heap.size nv0 (fun _ => 0) 0 0 A a P wx))
  case first =>
    go_region_held3 (fun w' => w'.cell? ⟨w.heap.size, 0, none⟩ = some (.int .i64 (g 0 0)) ∧ w'.cell? ⟨w.heap.size, 1, none⟩ = some (.int .i64 (g 0 1)) ∧ w'.cell? ⟨w.heap.size, 4, none⟩ = some (.int .i64 (g 1 0)) ∧ w'.cell? ⟨w.heap.size, 5, none⟩ = some (.int .i64 (g 1 1))) (first | exact HC0.out | exact HS0.out) ((go_at_call 63; (with_reducible refine HJ0.out.mono ?_); rintro e V0 ⟨A0, a0, v, P0, rfl, ⟨s0, rfl, hs0, hres, hden⟩, hst⟩; have hm := HL0.out.go hst.drew hres; have HS0 := Lib.hid (And.intro (hm.cellG 0) (And.intro (hm.cellG 1) (And.intro (hm.cellG 4) (hm.cellG 5))))))
    all_goals
      go_wp2_with fail
      go_meet
      exact ⟨s0, A0, a0, P0, rfl, hs0, hden, hm⟩
  case rest =>
  obtain ⟨s0, A0, a0, P0, rfl, hqq⟩ := hcut
  obtain ⟨hs0, hden, hm⟩ := hqq.out
  have HM0 := Lib.hid hm
  have HR0 := Lib.hid (HIH.out U lb b t B Lv a0 A0 P0 s0 (sqG (gridT T) 0 0) m wc.drew HM0.out.ar HM0.out.res.wf (HM0.out.res.notes HNT.out) HM0.out.at_ HM0.out.lbF ht HB.out (Nat.le_refl _) hden hs0 (HUR.out 0 0 (by omega) (by omega)))
  rw [← H2.out] at HR0
  clear hden hm
  go_wp2_with fail
  go_region_with ((go_at_call 33; (with_reducible refine HR0.out.mono ?_); rintro e Z0 ⟨S1, b1, v, F1, rfl, ⟨r0, rfl, hr0, hres, hden⟩, hst⟩; have hls := HM0.out.go hst.drew hres; have c1 := hls.cellN 0; have c2 := hls.fzN 0))
  have HLS := Lib.hid hls
  have HDE := Lib.hid hden
  clear hls hden hres hst
  go_upto_region 13 with fail
  refine wp_named ?_
  intro W1 hW
  obtain ⟨nv1, hl⟩ := HLS.out.putN (by omega) hr0 HDE.out
  rw [← hW] at hl
  have HL1 := Lib.hid hl
  clear hl hW c1 c2 HLS HDE HC0 HJ0 HM0 HR0 HL0
  go_wp2_with fail
  rw [rounds_succ]
  have d0 : W1.drew.cell? ⟨w.heap.size, 1, none⟩ = some (.int .i64 (g 0 1)) := HL1.out.cellG 1
  have d1 : W1.drew.cell? ⟨w.heap.size, 2, none⟩ = some (.int .i64 (g 0 2)) := HL1.out.cellG 2
  have d2 : W1.drew.cell? ⟨w.heap.size, 5, none⟩ = some (.int .i64 (g 1 1)) := HL1.out.cellG 5
  have d3 : W1.drew.cell? ⟨w.heap.size, 6, none⟩ = some (.int .i64 (g 1 2)) := HL1.out.cellG 6
  have HJ1 := Lib.hid (ljoin_tree lb b t (m + 1) B Lv b1 S1 F1 (g 0 1) (g 0 2) (g 1 1) (g 1 2) (gridT T 0 1) (gridT T 0 2) (gridT T 1 1) (gridT T 1 2) W1.drew HL1.out.ar HL1.out.res.wf HL1.out.at_ HL1.out.lbF ⟨HG64.out 0 1, HG64.out 0 2, HG64.out 1 1, HG64.out 1 2⟩ ht (by omega) (fun _ => ⟨(HGD.out 0 1).ext (HL1.out.res.ext t), (HGD.out 0 2).ext (HL1.out.res.ext t), (HGD.out 1 1).ext (HL1.out.res.ext t), (HGD.out 1 2).ext (HL1.out.res.ext t)⟩) (HUS.out 0 1 (by omega) (by omega)))
  have HC1 := Lib.hid (And.intro d0 (And.intro d1 (And.intro d2 d3)))
  clear d0 d1 d2 d3
  go_upto_region 9 with fail
  go_cut [13] from 29 to 54 (fun s13 wx => ∃ (s : Int) (A : ArS) (a : Int) (P : Nat → Prop), s13 = .int .i64 s ∧ Aside (I64 s ∧ (a = 0 → Den A.L t (m + 1 + 1) (sqG (gridT T) 0 1) s) ∧ LS U w F lb b t B Lv S g m (fun k => (fun y x => leapT B Lv m m (sqG (gridT T) y x)) (k / 3) (k % 3)) (fun k => leapT B Lv m m (sqG (fun y x => leapT B Lv m m (sqG (gridT T) y x)) (k / 2) (k % 2))) w.heap.size nv1 (fun _ => 0) 1 0 A a P wx))
  case first =>
    go_region_held3 (fun w' => w'.cell? ⟨w.heap.size, 1, none⟩ = some (.int .i64 (g 0 1)) ∧ w'.cell? ⟨w.heap.size, 2, none⟩ = some (.int .i64 (g 0 2)) ∧ w'.cell? ⟨w.heap.size, 5, none⟩ = some (.int .i64 (g 1 1)) ∧ w'.cell? ⟨w.heap.size, 6, none⟩ = some (.int .i64 (g 1 2))) (first | exact HC1.out | exact HS1.out) ((go_at_call 63; (with_reducible refine HJ1.out.mono ?_); rintro e V1 ⟨A1, a1, v, P1, rfl, ⟨s1, rfl, hs1, hres, hden⟩, hst⟩; have hm := HL1.out.go hst.drew hres; have HS1 := Lib.hid (And.intro (hm.cellG 1) (And.intro (hm.cellG 2) (And.intro (hm.cellG 5) (hm.cellG 6))))))
    all_goals
      go_wp2_with fail
      go_meet
      exact ⟨s1, A1, a1, P1, rfl, hs1, hden, hm⟩
  case rest =>
  obtain ⟨s1, A1, a1, P1, rfl, hqq⟩ := hcut
  obtain ⟨hs1, hden, hm⟩ := hqq.out
  have HM1 := Lib.hid hm
  have HR1 := Lib.hid (HIH.out U lb b t B Lv a1 A1 P1 s1 (sqG (gridT T) 0 1) m wc.drew HM1.out.ar HM1.out.res.wf (HM1.out.res.notes HNT.out) HM1.out.at_ HM1.out.lbF ht HB.out (Nat.le_refl _) hden hs1 (HUR.out 0 1 (by omega) (by omega)))
  rw [← H2.out] at HR1
  clear hden hm
  go_wp2_with fail
  go_region_with ((go_at_call 33; (with_reducible refine HR1.out.mono ?_); rintro e Z1 ⟨S2, b2, v, F2, rfl, ⟨r1, rfl, hr1, hres, hden⟩, hst⟩; have hls := HM1.out.go hst.drew hres; have c1 := hls.cellN 1; have c2 := hls.fzN 1))
  have HLS := Lib.hid hls
  have HDE := Lib.hid hden
  clear hls hden hres hst
  go_upto_region 13 with fail
  refine wp_named ?_
  intro W2 hW
  obtain ⟨nv2, hl⟩ := HLS.out.putN (by omega) hr1 HDE.out
  rw [← hW] at hl
  have HL2 := Lib.hid hl
  clear hl hW c1 c2 HLS HDE HC1 HJ1 HM1 HR1 HL1
  go_wp2_with fail
  rw [rounds_succ]
  have d0 : W2.drew.cell? ⟨w.heap.size, 2, none⟩ = some (.int .i64 (g 0 2)) := HL2.out.cellG 2
  have d1 : W2.drew.cell? ⟨w.heap.size, 3, none⟩ = some (.int .i64 (g 0 3)) := HL2.out.cellG 3
  have d2 : W2.drew.cell? ⟨w.heap.size, 6, none⟩ = some (.int .i64 (g 1 2)) := HL2.out.cellG 6
  have d3 : W2.drew.cell? ⟨w.heap.size, 7, none⟩ = some (.int .i64 (g 1 3)) := HL2.out.cellG 7
  have HJ2 := Lib.hid (ljoin_tree lb b t (m + 1) B Lv b2 S2 F2 (g 0 2) (g 0 3) (g 1 2) (g 1 3) (gridT T 0 2) (gridT T 0 3) (gridT T 1 2) (gridT T 1 3) W2.drew HL2.out.ar HL2.out.res.wf HL2.out.at_ HL2.out.lbF ⟨HG64.out 0 2, HG64.out 0 3, HG64.out 1 2, HG64.out 1 3⟩ ht (by omega) (fun _ => ⟨(HGD.out 0 2).ext (HL2.out.res.ext t), (HGD.out 0 3).ext (HL2.out.res.ext t), (HGD.out 1 2).ext (HL2.out.res.ext t), (HGD.out 1 3).ext (HL2.out.res.ext t)⟩) (HUS.out 0 2 (by omega) (by omega)))
  have HC2 := Lib.hid (And.intro d0 (And.intro d1 (And.intro d2 d3)))
  clear d0 d1 d2 d3
  go_upto_region 9 with fail
  go_cut [13] from 29 to 54 (fun s13 wx => ∃ (s : Int) (A : ArS) (a : Int) (P : Nat → Prop), s13 = .int .i64 s ∧ Aside (I64 s ∧ (a = 0 → Den A.L t (m + 1 + 1) (sqG (gridT T) 0 2) s) ∧ LS U w F lb b t B Lv S g m (fun k => (fun y x => leapT B Lv m m (sqG (gridT T) y x)) (k / 3) (k % 3)) (fun k => leapT B Lv m m (sqG (fun y x => leapT B Lv m m (sqG (gridT T) y x)) (k / 2) (k % 2))) w.heap.size nv2 (fun _ => 0) 2 0 A a P wx))
  case first =>
    go_region_held3 (fun w' => w'.cell? ⟨w.heap.size, 2, none⟩ = some (.int .i64 (g 0 2)) ∧ w'.cell? ⟨w.heap.size, 3, none⟩ = some (.int .i64 (g 0 3)) ∧ w'.cell? ⟨w.heap.size, 6, none⟩ = some (.int .i64 (g 1 2)) ∧ w'.cell? ⟨w.heap.size, 7, none⟩ = some (.int .i64 (g 1 3))) (first | exact HC2.out | exact HS2.out) ((go_at_call 63; (with_reducible refine HJ2.out.mono ?_); rintro e V2 ⟨A2, a2, v, P2, rfl, ⟨s2, rfl, hs2, hres, hden⟩, hst⟩; have hm := HL2.out.go hst.drew hres; have HS2 := Lib.hid (And.intro (hm.cellG 2) (And.intro (hm.cellG 3) (And.intro (hm.cellG 6) (hm.cellG 7))))))
    all_goals
      go_wp2_with fail
      go_meet
      exact ⟨s2, A2, a2, P2, rfl, hs2, hden, hm⟩
  case rest =>
  obtain ⟨s2, A2, a2, P2, rfl, hqq⟩ := hcut
  obtain ⟨hs2, hden, hm⟩ := hqq.out
  have HM2 := Lib.hid hm
  have HR2 := Lib.hid (HIH.out U lb b t B Lv a2 A2 P2 s2 (sqG (gridT T) 0 2) m wc.drew HM2.out.ar HM2.out.res.wf (HM2.out.res.notes HNT.out) HM2.out.at_ HM2.out.lbF ht HB.out (Nat.le_refl _) hden hs2 (HUR.out 0 2 (by omega) (by omega)))
  rw [← H2.out] at HR2
  clear hden hm
  go_wp2_with fail
  go_region_with ((go_at_call 33; (with_reducible refine HR2.out.mono ?_); rintro e Z2 ⟨S3, b3, v, F3, rfl, ⟨r2, rfl, hr2, hres, hden⟩, hst⟩; have hls := HM2.out.go hst.drew hres; have c1 := hls.cellN 2; have c2 := hls.fzN 2))
  have HLS := Lib.hid hls
  have HDE := Lib.hid hden
  clear hls hden hres hst
  go_upto_region 13 with fail
  refine wp_named ?_
  intro W3 hW
  obtain ⟨nv3, hl⟩ := HLS.out.putN (by omega) hr2 HDE.out
  rw [← hW] at hl
  have HL3 := Lib.hid hl
  clear hl hW c1 c2 HLS HDE HC2 HJ2 HM2 HR2 HL2
  go_wp2_with fail
  rw [rounds_succ]
  go_wp2_with fail
  rw [rounds_succ]
  go_wp2_with fail
  refine wp_loop_rounds 4 ?_
  rw [rounds_succ]
  have d0 : W3.drew.cell? ⟨w.heap.size, 4, none⟩ = some (.int .i64 (g 1 0)) := HL3.out.cellG 4
  have d1 : W3.drew.cell? ⟨w.heap.size, 5, none⟩ = some (.int .i64 (g 1 1)) := HL3.out.cellG 5
  have d2 : W3.drew.cell? ⟨w.heap.size, 8, none⟩ = some (.int .i64 (g 2 0)) := HL3.out.cellG 8
  have d3 : W3.drew.cell? ⟨w.heap.size, 9, none⟩ = some (.int .i64 (g 2 1)) := HL3.out.cellG 9
  have HJ3 := Lib.hid (ljoin_tree lb b t (m + 1) B Lv b3 S3 F3 (g 1 0) (g 1 1) (g 2 0) (g 2 1) (gridT T 1 0) (gridT T 1 1) (gridT T 2 0) (gridT T 2 1) W3.drew HL3.out.ar HL3.out.res.wf HL3.out.at_ HL3.out.lbF ⟨HG64.out 1 0, HG64.out 1 1, HG64.out 2 0, HG64.out 2 1⟩ ht (by omega) (fun _ => ⟨(HGD.out 1 0).ext (HL3.out.res.ext t), (HGD.out 1 1).ext (HL3.out.res.ext t), (HGD.out 2 0).ext (HL3.out.res.ext t), (HGD.out 2 1).ext (HL3.out.res.ext t)⟩) (HUS.out 1 0 (by omega) (by omega)))
  have HC3 := Lib.hid (And.intro d0 (And.intro d1 (And.intro d2 d3)))
  clear d0 d1 d2 d3
  go_upto_region 9 with fail
  go_cut [13] from 29 to 54 (fun s13 wx => ∃ (s : Int) (A : ArS) (a : Int) (P : Nat → Prop), s13 = .int .i64 s ∧ Aside (I64 s ∧ (a = 0 → Den A.L t (m + 1 + 1) (sqG (gridT T) 1 0) s) ∧ LS U w F lb b t B Lv S g m (fun k => (fun y x => leapT B Lv m m (sqG (gridT T) y x)) (k / 3) (k % 3)) (fun k => leapT B Lv m m (sqG (fun y x => leapT B Lv m m (sqG (gridT T) y x)) (k / 2) (k % 2))) w.heap.size nv3 (fun _ => 0) 3 0 A a P wx))
  case first =>
    go_region_held3 (fun w' => w'.cell? ⟨w.heap.size, 4, none⟩ = some (.int .i64 (g 1 0)) ∧ w'.cell? ⟨w.heap.size, 5, none⟩ = some (.int .i64 (g 1 1)) ∧ w'.cell? ⟨w.heap.size, 8, none⟩ = some (.int .i64 (g 2 0)) ∧ w'.cell? ⟨w.heap.size, 9, none⟩ = some (.int .i64 (g 2 1))) (first | exact HC3.out | exact HS3.out) ((go_at_call 63; (with_reducible refine HJ3.out.mono ?_); rintro e V3 ⟨A3, a3, v, P3, rfl, ⟨s3, rfl, hs3, hres, hden⟩, hst⟩; have hm := HL3.out.go hst.drew hres; have HS3 := Lib.hid (And.intro (hm.cellG 4) (And.intro (hm.cellG 5) (And.intro (hm.cellG 8) (hm.cellG 9))))))
    all_goals
      go_wp2_with fail
      go_meet
      exact ⟨s3, A3, a3, P3, rfl, hs3, hden, hm⟩
  case rest =>
  obtain ⟨s3, A3, a3, P3, rfl, hqq⟩ := hcut
  obtain ⟨hs3, hden, hm⟩ := hqq.out
  have HM3 := Lib.hid hm
  have HR3 := Lib.hid (HIH.out U lb b t B Lv a3 A3 P3 s3 (sqG (gridT T) 1 0) m wc.drew HM3.out.ar HM3.out.res.wf (HM3.out.res.notes HNT.out) HM3.out.at_ HM3.out.lbF ht HB.out (Nat.le_refl _) hden hs3 (HUR.out 1 0 (by omega) (by omega)))
  rw [← H2.out] at HR3
  clear hden hm
  go_wp2_with fail
  go_region_with ((go_at_call 33; (with_reducible refine HR3.out.mono ?_); rintro e Z3 ⟨S4, b4, v, F4, rfl, ⟨r3, rfl, hr3, hres, hden⟩, hst⟩; have hls := HM3.out.go hst.drew hres; have c1 := hls.cellN 3; have c2 := hls.fzN 3))
  have HLS := Lib.hid hls
  have HDE := Lib.hid hden
  clear hls hden hres hst
  go_upto_region 13 with fail
  refine wp_named ?_
  intro W4 hW
  obtain ⟨nv4, hl⟩ := HLS.out.putN (by omega) hr3 HDE.out
  rw [← hW] at hl
  have HL4 := Lib.hid hl
  clear hl hW c1 c2 HLS HDE HC3 HJ3 HM3 HR3 HL3
  go_wp2_with fail
  rw [rounds_succ]
  have d0 : W4.drew.cell? ⟨w.heap.size, 5, none⟩ = some (.int .i64 (g 1 1)) := HL4.out.cellG 5
  have d1 : W4.drew.cell? ⟨w.heap.size, 6, none⟩ = some (.int .i64 (g 1 2)) := HL4.out.cellG 6
  have d2 : W4.drew.cell? ⟨w.heap.size, 9, none⟩ = some (.int .i64 (g 2 1)) := HL4.out.cellG 9
  have d3 : W4.drew.cell? ⟨w.heap.size, 10, none⟩ = some (.int .i64 (g 2 2)) := HL4.out.cellG 10
  have HJ4 := Lib.hid (ljoin_tree lb b t (m + 1) B Lv b4 S4 F4 (g 1 1) (g 1 2) (g 2 1) (g 2 2) (gridT T 1 1) (gridT T 1 2) (gridT T 2 1) (gridT T 2 2) W4.drew HL4.out.ar HL4.out.res.wf HL4.out.at_ HL4.out.lbF ⟨HG64.out 1 1, HG64.out 1 2, HG64.out 2 1, HG64.out 2 2⟩ ht (by omega) (fun _ => ⟨(HGD.out 1 1).ext (HL4.out.res.ext t), (HGD.out 1 2).ext (HL4.out.res.ext t), (HGD.out 2 1).ext (HL4.out.res.ext t), (HGD.out 2 2).ext (HL4.out.res.ext t)⟩) (HUS.out 1 1 (by omega) (by omega)))
  have HC4 := Lib.hid (And.intro d0 (And.intro d1 (And.intro d2 d3)))
  clear d0 d1 d2 d3
  go_upto_region 9 with fail
  go_cut [13] from 29 to 54 (fun s13 wx => ∃ (s : Int) (A : ArS) (a : Int) (P : Nat → Prop), s13 = .int .i64 s ∧ Aside (I64 s ∧ (a = 0 → Den A.L t (m + 1 + 1) (sqG (gridT T) 1 1) s) ∧ LS U w F lb b t B Lv S g m (fun k => (fun y x => leapT B Lv m m (sqG (gridT T) y x)) (k / 3) (k % 3)) (fun k => leapT B Lv m m (sqG (fun y x => leapT B Lv m m (sqG (gridT T) y x)) (k / 2) (k % 2))) w.heap.size nv4 (fun _ => 0) 4 0 A a P wx))
  case first =>
    go_region_held3 (fun w' => w'.cell? ⟨w.heap.size, 5, none⟩ = some (.int .i64 (g 1 1)) ∧ w'.cell? ⟨w.heap.size, 6, none⟩ = some (.int .i64 (g 1 2)) ∧ w'.cell? ⟨w.heap.size, 9, none⟩ = some (.int .i64 (g 2 1)) ∧ w'.cell? ⟨w.heap.size, 10, none⟩ = some (.int .i64 (g 2 2))) (first | exact HC4.out | exact HS4.out) ((go_at_call 63; (with_reducible refine HJ4.out.mono ?_); rintro e V4 ⟨A4, a4, v, P4, rfl, ⟨s4, rfl, hs4, hres, hden⟩, hst⟩; have hm := HL4.out.go hst.drew hres; have HS4 := Lib.hid (And.intro (hm.cellG 5) (And.intro (hm.cellG 6) (And.intro (hm.cellG 9) (hm.cellG 10))))))
    all_goals
      go_wp2_with fail
      go_meet
      exact ⟨s4, A4, a4, P4, rfl, hs4, hden, hm⟩
  case rest =>
  obtain ⟨s4, A4, a4, P4, rfl, hqq⟩ := hcut
  obtain ⟨hs4, hden, hm⟩ := hqq.out
  have HM4 := Lib.hid hm
  have HR4 := Lib.hid (HIH.out U lb b t B Lv a4 A4 P4 s4 (sqG (gridT T) 1 1) m wc.drew HM4.out.ar HM4.out.res.wf (HM4.out.res.notes HNT.out) HM4.out.at_ HM4.out.lbF ht HB.out (Nat.le_refl _) hden hs4 (HUR.out 1 1 (by omega) (by omega)))
  rw [← H2.out] at HR4
  clear hden hm
  go_wp2_with fail
  go_region_with ((go_at_call 33; (with_reducible refine HR4.out.mono ?_); rintro e Z4 ⟨S5, b5, v, F5, rfl, ⟨r4, rfl, hr4, hres, hden⟩, hst⟩; have hls := HM4.out.go hst.drew hres; have c1 := hls.cellN 4; have c2 := hls.fzN 4))
  have HLS := Lib.hid hls
  have HDE := Lib.hid hden
  clear hls hden hres hst
  go_upto_region 13 with fail
  refine wp_named ?_
  intro W5 hW
  obtain ⟨nv5, hl⟩ := HLS.out.putN (by omega) hr4 HDE.out
  rw [← hW] at hl
  have HL5 := Lib.hid hl
  clear hl hW c1 c2 HLS HDE HC4 HJ4 HM4 HR4 HL4
  go_wp2_with fail
  rw [rounds_succ]
  have d0 : W5.drew.cell? ⟨w.heap.size, 6, none⟩ = some (.int .i64 (g 1 2)) := HL5.out.cellG 6
  have d1 : W5.drew.cell? ⟨w.heap.size, 7, none⟩ = some (.int .i64 (g 1 3)) := HL5.out.cellG 7
  have d2 : W5.drew.cell? ⟨w.heap.size, 10, none⟩ = some (.int .i64 (g 2 2)) := HL5.out.cellG 10
  have d3 : W5.drew.cell? ⟨w.heap.size, 11, none⟩ = some (.int .i64 (g 2 3)) := HL5.out.cellG 11
  have HJ5 := Lib.hid (ljoin_tree lb b t (m + 1) B Lv b5 S5 F5 (g 1 2) (g 1 3) (g 2 2) (g 2 3) (gridT T 1 2) (gridT T 1 3) (gridT T 2 2) (gridT T 2 3) W5.drew HL5.out.ar HL5.out.res.wf HL5.out.at_ HL5.out.lbF ⟨HG64.out 1 2, HG64.out 1 3, HG64.out 2 2, HG64.out 2 3⟩ ht (by omega) (fun _ => ⟨(HGD.out 1 2).ext (HL5.out.res.ext t), (HGD.out 1 3).ext (HL5.out.res.ext t), (HGD.out 2 2).ext (HL5.out.res.ext t), (HGD.out 2 3).ext (HL5.out.res.ext t)⟩) (HUS.out 1 2 (by omega) (by omega)))
  have HC5 := Lib.hid (And.intro d0 (And.intro d1 (And.intro d2 d3)))
  clear d0 d1 d2 d3
  go_upto_region 9 with fail
  go_cut [13] from 29 to 54 (fun s13 wx => ∃ (s : Int) (A : ArS) (a : Int) (P : Nat → Prop), s13 = .int .i64 s ∧ Aside (I64 s ∧ (a = 0 → Den A.L t (m + 1 + 1) (sqG (gridT T) 1 2) s) ∧ LS U w F lb b t B Lv S g m (fun k => (fun y x => leapT B Lv m m (sqG (gridT T) y x)) (k / 3) (k % 3)) (fun k => leapT B Lv m m (sqG (fun y x => leapT B Lv m m (sqG (gridT T) y x)) (k / 2) (k % 2))) w.heap.size nv5 (fun _ => 0) 5 0 A a P wx))
  case first =>
    go_region_held3 (fun w' => w'.cell? ⟨w.heap.size, 6, none⟩ = some (.int .i64 (g 1 2)) ∧ w'.cell? ⟨w.heap.size, 7, none⟩ = some (.int .i64 (g 1 3)) ∧ w'.cell? ⟨w.heap.size, 10, none⟩ = some (.int .i64 (g 2 2)) ∧ w'.cell? ⟨w.heap.size, 11, none⟩ = some (.int .i64 (g 2 3))) (first | exact HC5.out | exact HS5.out) ((go_at_call 63; (with_reducible refine HJ5.out.mono ?_); rintro e V5 ⟨A5, a5, v, P5, rfl, ⟨s5, rfl, hs5, hres, hden⟩, hst⟩; have hm := HL5.out.go hst.drew hres; have HS5 := Lib.hid (And.intro (hm.cellG 6) (And.intro (hm.cellG 7) (And.intro (hm.cellG 10) (hm.cellG 11))))))
    all_goals
      go_wp2_with fail
      go_meet
      exact ⟨s5, A5, a5, P5, rfl, hs5, hden, hm⟩
  case rest =>
  obtain ⟨s5, A5, a5, P5, rfl, hqq⟩ := hcut
  obtain ⟨hs5, hden, hm⟩ := hqq.out
  have HM5 := Lib.hid hm
  have HR5 := Lib.hid (HIH.out U lb b t B Lv a5 A5 P5 s5 (sqG (gridT T) 1 2) m wc.drew HM5.out.ar HM5.out.res.wf (HM5.out.res.notes HNT.out) HM5.out.at_ HM5.out.lbF ht HB.out (Nat.le_refl _) hden hs5 (HUR.out 1 2 (by omega) (by omega)))
  rw [← H2.out] at HR5
  clear hden hm
  go_wp2_with fail
  go_region_with ((go_at_call 33; (with_reducible refine HR5.out.mono ?_); rintro e Z5 ⟨S6, b6, v, F6, rfl, ⟨r5, rfl, hr5, hres, hden⟩, hst⟩; have hls := HM5.out.go hst.drew hres; have c1 := hls.cellN 5; have c2 := hls.fzN 5))
  have HLS := Lib.hid hls
  have HDE := Lib.hid hden
  clear hls hden hres hst
  go_upto_region 13 with fail
  refine wp_named ?_
  intro W6 hW
  obtain ⟨nv6, hl⟩ := HLS.out.putN (by omega) hr5 HDE.out
  rw [← hW] at hl
  have HL6 := Lib.hid hl
  clear hl hW c1 c2 HLS HDE HC5 HJ5 HM5 HR5 HL5
  go_wp2_with fail
  rw [rounds_succ]
  go_wp2_with fail
  rw [rounds_succ]
  go_wp2_with fail
  refine wp_loop_rounds 4 ?_
  rw [rounds_succ]
  have d0 : W6.drew.cell? ⟨w.heap.size, 8, none⟩ = some (.int .i64 (g 2 0)) := HL6.out.cellG 8
  have d1 : W6.drew.cell? ⟨w.heap.size, 9, none⟩ = some (.int .i64 (g 2 1)) := HL6.out.cellG 9
  have d2 : W6.drew.cell? ⟨w.heap.size, 12, none⟩ = some (.int .i64 (g 3 0)) := HL6.out.cellG 12
  have d3 : W6.drew.cell? ⟨w.heap.size, 13, none⟩ = some (.int .i64 (g 3 1)) := HL6.out.cellG 13
  have HJ6 := Lib.hid (ljoin_tree lb b t (m + 1) B Lv b6 S6 F6 (g 2 0) (g 2 1) (g 3 0) (g 3 1) (gridT T 2 0) (gridT T 2 1) (gridT T 3 0) (gridT T 3 1) W6.drew HL6.out.ar HL6.out.res.wf HL6.out.at_ HL6.out.lbF ⟨HG64.out 2 0, HG64.out 2 1, HG64.out 3 0, HG64.out 3 1⟩ ht (by omega) (fun _ => ⟨(HGD.out 2 0).ext (HL6.out.res.ext t), (HGD.out 2 1).ext (HL6.out.res.ext t), (HGD.out 3 0).ext (HL6.out.res.ext t), (HGD.out 3 1).ext (HL6.out.res.ext t)⟩) (HUS.out 2 0 (by omega) (by omega)))
  have HC6 := Lib.hid (And.intro d0 (And.intro d1 (And.intro d2 d3)))
  clear d0 d1 d2 d3
  go_upto_region 9 with fail
  go_cut [13] from 29 to 54 (fun s13 wx => ∃ (s : Int) (A : ArS) (a : Int) (P : Nat → Prop), s13 = .int .i64 s ∧ Aside (I64 s ∧ (a = 0 → Den A.L t (m + 1 + 1) (sqG (gridT T) 2 0) s) ∧ LS U w F lb b t B Lv S g m (fun k => (fun y x => leapT B Lv m m (sqG (gridT T) y x)) (k / 3) (k % 3)) (fun k => leapT B Lv m m (sqG (fun y x => leapT B Lv m m (sqG (gridT T) y x)) (k / 2) (k % 2))) w.heap.size nv6 (fun _ => 0) 6 0 A a P wx))
  case first =>
    go_region_held3 (fun w' => w'.cell? ⟨w.heap.size, 8, none⟩ = some (.int .i64 (g 2 0)) ∧ w'.cell? ⟨w.heap.size, 9, none⟩ = some (.int .i64 (g 2 1)) ∧ w'.cell? ⟨w.heap.size, 12, none⟩ = some (.int .i64 (g 3 0)) ∧ w'.cell? ⟨w.heap.size, 13, none⟩ = some (.int .i64 (g 3 1))) (first | exact HC6.out | exact HS6.out) ((go_at_call 63; (with_reducible refine HJ6.out.mono ?_); rintro e V6 ⟨A6, a6, v, P6, rfl, ⟨s6, rfl, hs6, hres, hden⟩, hst⟩; have hm := HL6.out.go hst.drew hres; have HS6 := Lib.hid (And.intro (hm.cellG 8) (And.intro (hm.cellG 9) (And.intro (hm.cellG 12) (hm.cellG 13))))))
    all_goals
      go_wp2_with fail
      go_meet
      exact ⟨s6, A6, a6, P6, rfl, hs6, hden, hm⟩
  case rest =>
  obtain ⟨s6, A6, a6, P6, rfl, hqq⟩ := hcut
  obtain ⟨hs6, hden, hm⟩ := hqq.out
  have HM6 := Lib.hid hm
  have HR6 := Lib.hid (HIH.out U lb b t B Lv a6 A6 P6 s6 (sqG (gridT T) 2 0) m wc.drew HM6.out.ar HM6.out.res.wf (HM6.out.res.notes HNT.out) HM6.out.at_ HM6.out.lbF ht HB.out (Nat.le_refl _) hden hs6 (HUR.out 2 0 (by omega) (by omega)))
  rw [← H2.out] at HR6
  clear hden hm
  go_wp2_with fail
  go_region_with ((go_at_call 33; (with_reducible refine HR6.out.mono ?_); rintro e Z6 ⟨S7, b7, v, F7, rfl, ⟨r6, rfl, hr6, hres, hden⟩, hst⟩; have hls := HM6.out.go hst.drew hres; have c1 := hls.cellN 6; have c2 := hls.fzN 6))
  have HLS := Lib.hid hls
  have HDE := Lib.hid hden
  clear hls hden hres hst
  go_upto_region 13 with fail
  refine wp_named ?_
  intro W7 hW
  obtain ⟨nv7, hl⟩ := HLS.out.putN (by omega) hr6 HDE.out
  rw [← hW] at hl
  have HL7 := Lib.hid hl
  clear hl hW c1 c2 HLS HDE HC6 HJ6 HM6 HR6 HL6
  go_wp2_with fail
  rw [rounds_succ]
  have d0 : W7.drew.cell? ⟨w.heap.size, 9, none⟩ = some (.int .i64 (g 2 1)) := HL7.out.cellG 9
  have d1 : W7.drew.cell? ⟨w.heap.size, 10, none⟩ = some (.int .i64 (g 2 2)) := HL7.out.cellG 10
  have d2 : W7.drew.cell? ⟨w.heap.size, 13, none⟩ = some (.int .i64 (g 3 1)) := HL7.out.cellG 13
  have d3 : W7.drew.cell? ⟨w.heap.size, 14, none⟩ = some (.int .i64 (g 3 2)) := HL7.out.cellG 14
  have HJ7 := Lib.hid (ljoin_tree lb b t (m + 1) B Lv b7 S7 F7 (g 2 1) (g 2 2) (g 3 1) (g 3 2) (gridT T 2 1) (gridT T 2 2) (gridT T 3 1) (gridT T 3 2) W7.drew HL7.out.ar HL7.out.res.wf HL7.out.at_ HL7.out.lbF ⟨HG64.out 2 1, HG64.out 2 2, HG64.out 3 1, HG64.out 3 2⟩ ht (by omega) (fun _ => ⟨(HGD.out 2 1).ext (HL7.out.res.ext t), (HGD.out 2 2).ext (HL7.out.res.ext t), (HGD.out 3 1).ext (HL7.out.res.ext t), (HGD.out 3 2).ext (HL7.out.res.ext t)⟩) (HUS.out 2 1 (by omega) (by omega)))
  have HC7 := Lib.hid (And.intro d0 (And.intro d1 (And.intro d2 d3)))
  clear d0 d1 d2 d3
  go_upto_region 9 with fail
  go_cut [13] from 29 to 54 (fun s13 wx => ∃ (s : Int) (A : ArS) (a : Int) (P : Nat → Prop), s13 = .int .i64 s ∧ Aside (I64 s ∧ (a = 0 → Den A.L t (m + 1 + 1) (sqG (gridT T) 2 1) s) ∧ LS U w F lb b t B Lv S g m (fun k => (fun y x => leapT B Lv m m (sqG (gridT T) y x)) (k / 3) (k % 3)) (fun k => leapT B Lv m m (sqG (fun y x => leapT B Lv m m (sqG (gridT T) y x)) (k / 2) (k % 2))) w.heap.size nv7 (fun _ => 0) 7 0 A a P wx))
  case first =>
    go_region_held3 (fun w' => w'.cell? ⟨w.heap.size, 9, none⟩ = some (.int .i64 (g 2 1)) ∧ w'.cell? ⟨w.heap.size, 10, none⟩ = some (.int .i64 (g 2 2)) ∧ w'.cell? ⟨w.heap.size, 13, none⟩ = some (.int .i64 (g 3 1)) ∧ w'.cell? ⟨w.heap.size, 14, none⟩ = some (.int .i64 (g 3 2))) (first | exact HC7.out | exact HS7.out) ((go_at_call 63; (with_reducible refine HJ7.out.mono ?_); rintro e V7 ⟨A7, a7, v, P7, rfl, ⟨s7, rfl, hs7, hres, hden⟩, hst⟩; have hm := HL7.out.go hst.drew hres; have HS7 := Lib.hid (And.intro (hm.cellG 9) (And.intro (hm.cellG 10) (And.intro (hm.cellG 13) (hm.cellG 14))))))
    all_goals
      go_wp2_with fail
      go_meet
      exact ⟨s7, A7, a7, P7, rfl, hs7, hden, hm⟩
  case rest =>
  obtain ⟨s7, A7, a7, P7, rfl, hqq⟩ := hcut
  obtain ⟨hs7, hden, hm⟩ := hqq.out
  have HM7 := Lib.hid hm
  have HR7 := Lib.hid (HIH.out U lb b t B Lv a7 A7 P7 s7 (sqG (gridT T) 2 1) m wc.drew HM7.out.ar HM7.out.res.wf (HM7.out.res.notes HNT.out) HM7.out.at_ HM7.out.lbF ht HB.out (Nat.le_refl _) hden hs7 (HUR.out 2 1 (by omega) (by omega)))
  rw [← H2.out] at HR7
  clear hden hm
  go_wp2_with fail
  go_region_with ((go_at_call 33; (with_reducible refine HR7.out.mono ?_); rintro e Z7 ⟨S8, b8, v, F8, rfl, ⟨r7, rfl, hr7, hres, hden⟩, hst⟩; have hls := HM7.out.go hst.drew hres; have c1 := hls.cellN 7; have c2 := hls.fzN 7))
  have HLS := Lib.hid hls
  have HDE := Lib.hid hden
  clear hls hden hres hst
  go_upto_region 13 with fail
  refine wp_named ?_
  intro W8 hW
  obtain ⟨nv8, hl⟩ := HLS.out.putN (by omega) hr7 HDE.out
  rw [← hW] at hl
  have HL8 := Lib.hid hl
  clear hl hW c1 c2 HLS HDE HC7 HJ7 HM7 HR7 HL7
  go_wp2_with fail
  rw [rounds_succ]
  have d0 : W8.drew.cell? ⟨w.heap.size, 10, none⟩ = some (.int .i64 (g 2 2)) := HL8.out.cellG 10
  have d1 : W8.drew.cell? ⟨w.heap.size, 11, none⟩ = some (.int .i64 (g 2 3)) := HL8.out.cellG 11
  have d2 : W8.drew.cell? ⟨w.heap.size, 14, none⟩ = some (.int .i64 (g 3 2)) := HL8.out.cellG 14
  have d3 : W8.drew.cell? ⟨w.heap.size, 15, none⟩ = some (.int .i64 (g 3 3)) := HL8.out.cellG 15
  have HJ8 := Lib.hid (ljoin_tree lb b t (m + 1) B Lv b8 S8 F8 (g 2 2) (g 2 3) (g 3 2) (g 3 3) (gridT T 2 2) (gridT T 2 3) (gridT T 3 2) (gridT T 3 3) W8.drew HL8.out.ar HL8.out.res.wf HL8.out.at_ HL8.out.lbF ⟨HG64.out 2 2, HG64.out 2 3, HG64.out 3 2, HG64.out 3 3⟩ ht (by omega) (fun _ => ⟨(HGD.out 2 2).ext (HL8.out.res.ext t), (HGD.out 2 3).ext (HL8.out.res.ext t), (HGD.out 3 2).ext (HL8.out.res.ext t), (HGD.out 3 3).ext (HL8.out.res.ext t)⟩) (HUS.out 2 2 (by omega) (by omega)))
  have HC8 := Lib.hid (And.intro d0 (And.intro d1 (And.intro d2 d3)))
  clear d0 d1 d2 d3
  go_upto_region 9 with fail
  go_cut [13] from 29 to 54 (fun s13 wx => ∃ (s : Int) (A : ArS) (a : Int) (P : Nat → Prop), s13 = .int .i64 s ∧ Aside (I64 s ∧ (a = 0 → Den A.L t (m + 1 + 1) (sqG (gridT T) 2 2) s) ∧ LS U w F lb b t B Lv S g m (fun k => (fun y x => leapT B Lv m m (sqG (gridT T) y x)) (k / 3) (k % 3)) (fun k => leapT B Lv m m (sqG (fun y x => leapT B Lv m m (sqG (gridT T) y x)) (k / 2) (k % 2))) w.heap.size nv8 (fun _ => 0) 8 0 A a P wx))
  case first =>
    go_region_held3 (fun w' => w'.cell? ⟨w.heap.size, 10, none⟩ = some (.int .i64 (g 2 2)) ∧ w'.cell? ⟨w.heap.size, 11, none⟩ = some (.int .i64 (g 2 3)) ∧ w'.cell? ⟨w.heap.size, 14, none⟩ = some (.int .i64 (g 3 2)) ∧ w'.cell? ⟨w.heap.size, 15, none⟩ = some (.int .i64 (g 3 3))) (first | exact HC8.out | exact HS8.out) ((go_at_call 63; (with_reducible refine HJ8.out.mono ?_); rintro e V8 ⟨A8, a8, v, P8, rfl, ⟨s8, rfl, hs8, hres, hden⟩, hst⟩; have hm := HL8.out.go hst.drew hres; have HS8 := Lib.hid (And.intro (hm.cellG 10) (And.intro (hm.cellG 11) (And.intro (hm.cellG 14) (hm.cellG 15))))))
    all_goals
      go_wp2_with fail
      go_meet
      exact ⟨s8, A8, a8, P8, rfl, hs8, hden, hm⟩
  case rest =>
  obtain ⟨s8, A8, a8, P8, rfl, hqq⟩ := hcut
  obtain ⟨hs8, hden, hm⟩ := hqq.out
  have HM8 := Lib.hid hm
  have HR8 := Lib.hid (HIH.out U lb b t B Lv a8 A8 P8 s8 (sqG (gridT T) 2 2) m wc.drew HM8.out.ar HM8.out.res.wf (HM8.out.res.notes HNT.out) HM8.out.at_ HM8.out.lbF ht HB.out (Nat.le_refl _) hden hs8 (HUR.out 2 2 (by omega) (by omega)))
  rw [← H2.out] at HR8
  clear hden hm
  go_wp2_with fail
  go_region_with ((go_at_call 33; (with_reducible refine HR8.out.mono ?_); rintro e Z8 ⟨S9, b9, v, F9, rfl, ⟨r8, rfl, hr8, hres, hden⟩, hst⟩; have hls := HM8.out.go hst.drew hres; have c1 := hls.cellN 8; have c2 := hls.fzN 8))
  have HLS := Lib.hid hls
  have HDE := Lib.hid hden
  clear hls hden hres hst
  go_upto_region 13 with fail
  refine wp_named ?_
  intro W9 hW
  obtain ⟨nv9, hl⟩ := HLS.out.putN (by omega) hr8 HDE.out
  rw [← hW] at hl
  have HL9 := Lib.hid hl
  clear hl hW c1 c2 HLS HDE HC8 HJ8 HM8 HR8 HL8
  go_wp2_with fail
  rw [rounds_succ]
  go_wp2_with fail
  rw [rounds_succ]
  obtain ⟨X2, hX2⟩ : ∃ X, X = W9.alloc (.cells #[.int .i64 0, .int .i64 0, .int .i64 0, .int .i64 0] 72 (0, 0)) := ⟨_, rfl⟩
  have hq0 := HL9.out.newQ
  rw [← hX2] at hq0
  obtain ⟨qv0, hqv0⟩ : ∃ f : Nat → Int, f = fun _ => 0 := ⟨_, rfl⟩
  rw [← hqv0] at hq0
  clear hqv0
  have HX2 := Lib.hid hX2
  obtain ⟨qb, hqb⟩ : ∃ q, q = W9.heap.size := ⟨_, rfl⟩
  have hqw : qb ≠ w.heap.size := by rw [hqb]; have := HL9.out.base; omega
  rw [← hqb] at hq0
  have HQ0 := Lib.hid hq0
  have HQB := Lib.hid hqb
  clear hX2 hq0 hqb
  go_upto_region 16 with fail
  rw [← HX2.out, ← HQB.out]
  go_wp2_with fail
  refine wp_loop_rounds 5 ?_
  rw [rounds_succ]
  have d0 : X2.drew.cell? ⟨w.heap.size + 1, 0, none⟩ = some (.int .i64 (nv9 0)) := HQ0.out.cellN 0
  have d1 : X2.drew.cell? ⟨w.heap.size + 1, 1, none⟩ = some (.int .i64 (nv9 1)) := HQ0.out.cellN 1
  have d2 : X2.drew.cell? ⟨w.heap.size + 1, 3, none⟩ = some (.int .i64 (nv9 3)) := HQ0.out.cellN 3
  have d3 : X2.drew.cell? ⟨w.heap.size + 1, 4, none⟩ = some (.int .i64 (nv9 4)) := HQ0.out.cellN 4
  have HJ0 := Lib.hid (ljoin_tree (U := U) lb b t (m + 1) B Lv b9 S9 F9 (nv9 0) (nv9 1) (nv9 3) (nv9 4) ((fun y x => leapT B Lv m m (sqG (gridT T) y x)) 0 0) ((fun y x => leapT B Lv m m (sqG (gridT T) y x)) 0 1) ((fun y x => leapT B Lv m m (sqG (gridT T) y x)) 1 0) ((fun y x => leapT B Lv m m (sqG (gridT T) y x)) 1 1) X2.drew HQ0.out.ar HQ0.out.res.wf HQ0.out.at_ HQ0.out.lbF ⟨HQ0.out.nI 0, HQ0.out.nI 1, HQ0.out.nI 3, HQ0.out.nI 4⟩ ht (by omega) (fun e => ⟨HQ0.out.nD e 0 (by omega), HQ0.out.nD e 1 (by omega), HQ0.out.nD e 3 (by omega), HQ0.out.nD e 4 (by omega)⟩) (HUQ.out 0 0 (by omega) (by omega)))
  have HC0 := Lib.hid (And.intro d0 (And.intro d1 (And.intro d2 d3)))
  clear d0 d1 d2 d3
  go_upto_region 20 with fail
  go_cut [18] from 85 to 110 (fun s18 wx => ∃ (s : Int) (A : ArS) (a : Int) (P : Nat → Prop), s18 = .int .i64 s ∧ Aside (I64 s ∧ (a = 0 → Den A.L t (m + 1 + 1) (sqG (fun y x => leapT B Lv m m (sqG (gridT T) y x)) 0 0) s) ∧ LS U w F lb b t B Lv S g m (fun k => (fun y x => leapT B Lv m m (sqG (gridT T) y x)) (k / 3) (k % 3)) (fun k => leapT B Lv m m (sqG (fun y x => leapT B Lv m m (sqG (gridT T) y x)) (k / 2) (k % 2))) qb nv9 qv0 9 0 A a P wx))
  case first =>
    go_region_held3 (fun w' => w'.cell? ⟨w.heap.size + 1, 0, none⟩ = some (.int .i64 (nv9 0)) ∧ w'.cell? ⟨w.heap.size + 1, 1, none⟩ = some (.int .i64 (nv9 1)) ∧ w'.cell? ⟨w.heap.size + 1, 3, none⟩ = some (.int .i64 (nv9 3)) ∧ w'.cell? ⟨w.heap.size + 1, 4, none⟩ = some (.int .i64 (nv9 4))) (first | exact HC0.out | exact HS0.out) ((go_at_call 63; (with_reducible refine HJ0.out.mono ?_); rintro e V0 ⟨A0, a0, v, P0, rfl, ⟨s0, rfl, hs0, hres, hden⟩, hst⟩; have hm := HQ0.out.go hst.drew hres; have HS0 := Lib.hid (And.intro (hm.cellN 0) (And.intro (hm.cellN 1) (And.intro (hm.cellN 3) (hm.cellN 4))))))
    all_goals
      go_wp2_with fail
      go_meet
      exact ⟨s0, A0, a0, P0, rfl, hs0, hden, hm⟩
  case rest =>
  obtain ⟨s0, A0, a0, P0, rfl, hqq⟩ := hcut
  obtain ⟨hs0, hden, hm⟩ := hqq.out
  have HM0 := Lib.hid hm
  have HR0 := Lib.hid (HIH.out U lb b t B Lv a0 A0 P0 s0 (sqG (fun y x => leapT B Lv m m (sqG (gridT T) y x)) 0 0) m wc HM0.out.st.1 HM0.out.res.wf (HM0.out.res.notes HNT.out) HM0.out.st.2.1 HM0.out.lbF ht HB.out (Nat.le_refl _) hden hs0 (HUP.out 0 0 (by omega) (by omega)))
  rw [← H2.out] at HR0
  clear hden hm
  go_wp2_with fail
  refine HR0.out.mono ?_
  rintro e Z0 ⟨R1, p1, v, G1, rfl, ⟨r0, rfl, hr0, hres, hden⟩, hst⟩
  have hls := HM0.out.go hst hres
  have c1 := hls.cellQ hqw 0
  have c2 := hls.fzQ hqw 0
  have HLS := Lib.hid hls
  have HDE := Lib.hid hden
  clear hls hden hres hst
  go_upto_region 24 with fail
  refine wp_named ?_
  intro Y1 hW
  obtain ⟨qv1, hl⟩ := HLS.out.putQ hqw (by omega) hr0 HDE.out
  rw [← hW] at hl
  have HQ1 := Lib.hid hl
  clear hl hW c1 c2 HC0 HJ0 HM0 HR0 HQ0 HLS HDE
  go_wp2_with fail
  rw [rounds_succ]
  have d0 : Y1.drew.cell? ⟨w.heap.size + 1, 1, none⟩ = some (.int .i64 (nv9 1)) := HQ1.out.cellN 1
  have d1 : Y1.drew.cell? ⟨w.heap.size + 1, 2, none⟩ = some (.int .i64 (nv9 2)) := HQ1.out.cellN 2
  have d2 : Y1.drew.cell? ⟨w.heap.size + 1, 4, none⟩ = some (.int .i64 (nv9 4)) := HQ1.out.cellN 4
  have d3 : Y1.drew.cell? ⟨w.heap.size + 1, 5, none⟩ = some (.int .i64 (nv9 5)) := HQ1.out.cellN 5
  have HJ1 := Lib.hid (ljoin_tree (U := U) lb b t (m + 1) B Lv p1 R1 G1 (nv9 1) (nv9 2) (nv9 4) (nv9 5) ((fun y x => leapT B Lv m m (sqG (gridT T) y x)) 0 1) ((fun y x => leapT B Lv m m (sqG (gridT T) y x)) 0 2) ((fun y x => leapT B Lv m m (sqG (gridT T) y x)) 1 1) ((fun y x => leapT B Lv m m (sqG (gridT T) y x)) 1 2) Y1.drew HQ1.out.ar HQ1.out.res.wf HQ1.out.at_ HQ1.out.lbF ⟨HQ1.out.nI 1, HQ1.out.nI 2, HQ1.out.nI 4, HQ1.out.nI 5⟩ ht (by omega) (fun e => ⟨HQ1.out.nD e 1 (by omega), HQ1.out.nD e 2 (by omega), HQ1.out.nD e 4 (by omega), HQ1.out.nD e 5 (by omega)⟩) (HUQ.out 0 1 (by omega) (by omega)))
  have HC1 := Lib.hid (And.intro d0 (And.intro d1 (And.intro d2 d3)))
  clear d0 d1 d2 d3
  go_upto_region 20 with fail
  go_cut [18] from 85 to 110 (fun s18 wx => ∃ (s : Int) (A : ArS) (a : Int) (P : Nat → Prop), s18 = .int .i64 s ∧ Aside (I64 s ∧ (a = 0 → Den A.L t (m + 1 + 1) (sqG (fun y x => leapT B Lv m m (sqG (gridT T) y x)) 0 1) s) ∧ LS U w F lb b t B Lv S g m (fun k => (fun y x => leapT B Lv m m (sqG (gridT T) y x)) (k / 3) (k % 3)) (fun k => leapT B Lv m m (sqG (fun y x => leapT B Lv m m (sqG (gridT T) y x)) (k / 2) (k % 2))) qb nv9 qv1 9 1 A a P wx))
  case first =>
    go_region_held3 (fun w' => w'.cell? ⟨w.heap.size + 1, 1, none⟩ = some (.int .i64 (nv9 1)) ∧ w'.cell? ⟨w.heap.size + 1, 2, none⟩ = some (.int .i64 (nv9 2)) ∧ w'.cell? ⟨w.heap.size + 1, 4, none⟩ = some (.int .i64 (nv9 4)) ∧ w'.cell? ⟨w.heap.size + 1, 5, none⟩ = some (.int .i64 (nv9 5))) (first | exact HC1.out | exact HS1.out) ((go_at_call 63; (with_reducible refine HJ1.out.mono ?_); rintro e V1 ⟨A1, a1, v, P1, rfl, ⟨s1, rfl, hs1, hres, hden⟩, hst⟩; have hm := HQ1.out.go hst.drew hres; have HS1 := Lib.hid (And.intro (hm.cellN 1) (And.intro (hm.cellN 2) (And.intro (hm.cellN 4) (hm.cellN 5))))))
    all_goals
      go_wp2_with fail
      go_meet
      exact ⟨s1, A1, a1, P1, rfl, hs1, hden, hm⟩
  case rest =>
  obtain ⟨s1, A1, a1, P1, rfl, hqq⟩ := hcut
  obtain ⟨hs1, hden, hm⟩ := hqq.out
  have HM1 := Lib.hid hm
  have HR1 := Lib.hid (HIH.out U lb b t B Lv a1 A1 P1 s1 (sqG (fun y x => leapT B Lv m m (sqG (gridT T) y x)) 0 1) m wc HM1.out.st.1 HM1.out.res.wf (HM1.out.res.notes HNT.out) HM1.out.st.2.1 HM1.out.lbF ht HB.out (Nat.le_refl _) hden hs1 (HUP.out 0 1 (by omega) (by omega)))
  rw [← H2.out] at HR1
  clear hden hm
  go_wp2_with fail
  refine HR1.out.mono ?_
  rintro e Z1 ⟨R2, p2, v, G2, rfl, ⟨r1, rfl, hr1, hres, hden⟩, hst⟩
  have hls := HM1.out.go hst hres
  have c1 := hls.cellQ hqw 1
  have c2 := hls.fzQ hqw 1
  have HLS := Lib.hid hls
  have HDE := Lib.hid hden
  clear hls hden hres hst
  go_upto_region 24 with fail
  refine wp_named ?_
  intro Y2 hW
  obtain ⟨qv2, hl⟩ := HLS.out.putQ hqw (by omega) hr1 HDE.out
  rw [← hW] at hl
  have HQ2 := Lib.hid hl
  clear hl hW c1 c2 HC1 HJ1 HM1 HR1 HQ1 HLS HDE
  go_wp2_with fail
  rw [rounds_succ]
  have d0 : Y2.drew.cell? ⟨w.heap.size + 1, 3, none⟩ = some (.int .i64 (nv9 3)) := HQ2.out.cellN 3
  have d1 : Y2.drew.cell? ⟨w.heap.size + 1, 4, none⟩ = some (.int .i64 (nv9 4)) := HQ2.out.cellN 4
  have d2 : Y2.drew.cell? ⟨w.heap.size + 1, 6, none⟩ = some (.int .i64 (nv9 6)) := HQ2.out.cellN 6
  have d3 : Y2.drew.cell? ⟨w.heap.size + 1, 7, none⟩ = some (.int .i64 (nv9 7)) := HQ2.out.cellN 7
  have HJ2 := Lib.hid (ljoin_tree (U := U) lb b t (m + 1) B Lv p2 R2 G2 (nv9 3) (nv9 4) (nv9 6) (nv9 7) ((fun y x => leapT B Lv m m (sqG (gridT T) y x)) 1 0) ((fun y x => leapT B Lv m m (sqG (gridT T) y x)) 1 1) ((fun y x => leapT B Lv m m (sqG (gridT T) y x)) 2 0) ((fun y x => leapT B Lv m m (sqG (gridT T) y x)) 2 1) Y2.drew HQ2.out.ar HQ2.out.res.wf HQ2.out.at_ HQ2.out.lbF ⟨HQ2.out.nI 3, HQ2.out.nI 4, HQ2.out.nI 6, HQ2.out.nI 7⟩ ht (by omega) (fun e => ⟨HQ2.out.nD e 3 (by omega), HQ2.out.nD e 4 (by omega), HQ2.out.nD e 6 (by omega), HQ2.out.nD e 7 (by omega)⟩) (HUQ.out 1 0 (by omega) (by omega)))
  have HC2 := Lib.hid (And.intro d0 (And.intro d1 (And.intro d2 d3)))
  clear d0 d1 d2 d3
  go_upto_region 20 with fail
  go_cut [18] from 85 to 110 (fun s18 wx => ∃ (s : Int) (A : ArS) (a : Int) (P : Nat → Prop), s18 = .int .i64 s ∧ Aside (I64 s ∧ (a = 0 → Den A.L t (m + 1 + 1) (sqG (fun y x => leapT B Lv m m (sqG (gridT T) y x)) 1 0) s) ∧ LS U w F lb b t B Lv S g m (fun k => (fun y x => leapT B Lv m m (sqG (gridT T) y x)) (k / 3) (k % 3)) (fun k => leapT B Lv m m (sqG (fun y x => leapT B Lv m m (sqG (gridT T) y x)) (k / 2) (k % 2))) qb nv9 qv2 9 2 A a P wx))
  case first =>
    go_region_held3 (fun w' => w'.cell? ⟨w.heap.size + 1, 3, none⟩ = some (.int .i64 (nv9 3)) ∧ w'.cell? ⟨w.heap.size + 1, 4, none⟩ = some (.int .i64 (nv9 4)) ∧ w'.cell? ⟨w.heap.size + 1, 6, none⟩ = some (.int .i64 (nv9 6)) ∧ w'.cell? ⟨w.heap.size + 1, 7, none⟩ = some (.int .i64 (nv9 7))) (first | exact HC2.out | exact HS2.out) ((go_at_call 63; (with_reducible refine HJ2.out.mono ?_); rintro e V2 ⟨A2, a2, v, P2, rfl, ⟨s2, rfl, hs2, hres, hden⟩, hst⟩; have hm := HQ2.out.go hst.drew hres; have HS2 := Lib.hid (And.intro (hm.cellN 3) (And.intro (hm.cellN 4) (And.intro (hm.cellN 6) (hm.cellN 7))))))
    all_goals
      go_wp2_with fail
      go_meet
      exact ⟨s2, A2, a2, P2, rfl, hs2, hden, hm⟩
  case rest =>
  obtain ⟨s2, A2, a2, P2, rfl, hqq⟩ := hcut
  obtain ⟨hs2, hden, hm⟩ := hqq.out
  have HM2 := Lib.hid hm
  have HR2 := Lib.hid (HIH.out U lb b t B Lv a2 A2 P2 s2 (sqG (fun y x => leapT B Lv m m (sqG (gridT T) y x)) 1 0) m wc HM2.out.st.1 HM2.out.res.wf (HM2.out.res.notes HNT.out) HM2.out.st.2.1 HM2.out.lbF ht HB.out (Nat.le_refl _) hden hs2 (HUP.out 1 0 (by omega) (by omega)))
  rw [← H2.out] at HR2
  clear hden hm
  go_wp2_with fail
  refine HR2.out.mono ?_
  rintro e Z2 ⟨R3, p3, v, G3, rfl, ⟨r2, rfl, hr2, hres, hden⟩, hst⟩
  have hls := HM2.out.go hst hres
  have c1 := hls.cellQ hqw 2
  have c2 := hls.fzQ hqw 2
  have HLS := Lib.hid hls
  have HDE := Lib.hid hden
  clear hls hden hres hst
  go_upto_region 24 with fail
  refine wp_named ?_
  intro Y3 hW
  obtain ⟨qv3, hl⟩ := HLS.out.putQ hqw (by omega) hr2 HDE.out
  rw [← hW] at hl
  have HQ3 := Lib.hid hl
  clear hl hW c1 c2 HC2 HJ2 HM2 HR2 HQ2 HLS HDE
  go_wp2_with fail
  rw [rounds_succ]
  have d0 : Y3.drew.cell? ⟨w.heap.size + 1, 4, none⟩ = some (.int .i64 (nv9 4)) := HQ3.out.cellN 4
  have d1 : Y3.drew.cell? ⟨w.heap.size + 1, 5, none⟩ = some (.int .i64 (nv9 5)) := HQ3.out.cellN 5
  have d2 : Y3.drew.cell? ⟨w.heap.size + 1, 7, none⟩ = some (.int .i64 (nv9 7)) := HQ3.out.cellN 7
  have d3 : Y3.drew.cell? ⟨w.heap.size + 1, 8, none⟩ = some (.int .i64 (nv9 8)) := HQ3.out.cellN 8
  have HJ3 := Lib.hid (ljoin_tree (U := U) lb b t (m + 1) B Lv p3 R3 G3 (nv9 4) (nv9 5) (nv9 7) (nv9 8) ((fun y x => leapT B Lv m m (sqG (gridT T) y x)) 1 1) ((fun y x => leapT B Lv m m (sqG (gridT T) y x)) 1 2) ((fun y x => leapT B Lv m m (sqG (gridT T) y x)) 2 1) ((fun y x => leapT B Lv m m (sqG (gridT T) y x)) 2 2) Y3.drew HQ3.out.ar HQ3.out.res.wf HQ3.out.at_ HQ3.out.lbF ⟨HQ3.out.nI 4, HQ3.out.nI 5, HQ3.out.nI 7, HQ3.out.nI 8⟩ ht (by omega) (fun e => ⟨HQ3.out.nD e 4 (by omega), HQ3.out.nD e 5 (by omega), HQ3.out.nD e 7 (by omega), HQ3.out.nD e 8 (by omega)⟩) (HUQ.out 1 1 (by omega) (by omega)))
  have HC3 := Lib.hid (And.intro d0 (And.intro d1 (And.intro d2 d3)))
  clear d0 d1 d2 d3
  go_upto_region 20 with fail
  go_cut [18] from 85 to 110 (fun s18 wx => ∃ (s : Int) (A : ArS) (a : Int) (P : Nat → Prop), s18 = .int .i64 s ∧ Aside (I64 s ∧ (a = 0 → Den A.L t (m + 1 + 1) (sqG (fun y x => leapT B Lv m m (sqG (gridT T) y x)) 1 1) s) ∧ LS U w F lb b t B Lv S g m (fun k => (fun y x => leapT B Lv m m (sqG (gridT T) y x)) (k / 3) (k % 3)) (fun k => leapT B Lv m m (sqG (fun y x => leapT B Lv m m (sqG (gridT T) y x)) (k / 2) (k % 2))) qb nv9 qv3 9 3 A a P wx))
  case first =>
    go_region_held3 (fun w' => w'.cell? ⟨w.heap.size + 1, 4, none⟩ = some (.int .i64 (nv9 4)) ∧ w'.cell? ⟨w.heap.size + 1, 5, none⟩ = some (.int .i64 (nv9 5)) ∧ w'.cell? ⟨w.heap.size + 1, 7, none⟩ = some (.int .i64 (nv9 7)) ∧ w'.cell? ⟨w.heap.size + 1, 8, none⟩ = some (.int .i64 (nv9 8))) (first | exact HC3.out | exact HS3.out) ((go_at_call 63; (with_reducible refine HJ3.out.mono ?_); rintro e V3 ⟨A3, a3, v, P3, rfl, ⟨s3, rfl, hs3, hres, hden⟩, hst⟩; have hm := HQ3.out.go hst.drew hres; have HS3 := Lib.hid (And.intro (hm.cellN 4) (And.intro (hm.cellN 5) (And.intro (hm.cellN 7) (hm.cellN 8))))))
    all_goals
      go_wp2_with fail
      go_meet
      exact ⟨s3, A3, a3, P3, rfl, hs3, hden, hm⟩
  case rest =>
  obtain ⟨s3, A3, a3, P3, rfl, hqq⟩ := hcut
  obtain ⟨hs3, hden, hm⟩ := hqq.out
  have HM3 := Lib.hid hm
  have HR3 := Lib.hid (HIH.out U lb b t B Lv a3 A3 P3 s3 (sqG (fun y x => leapT B Lv m m (sqG (gridT T) y x)) 1 1) m wc HM3.out.st.1 HM3.out.res.wf (HM3.out.res.notes HNT.out) HM3.out.st.2.1 HM3.out.lbF ht HB.out (Nat.le_refl _) hden hs3 (HUP.out 1 1 (by omega) (by omega)))
  rw [← H2.out] at HR3
  clear hden hm
  go_wp2_with fail
  refine HR3.out.mono ?_
  rintro e Z3 ⟨R4, p4, v, G4, rfl, ⟨r3, rfl, hr3, hres, hden⟩, hst⟩
  have hls := HM3.out.go hst hres
  have c1 := hls.cellQ hqw 3
  have c2 := hls.fzQ hqw 3
  have HLS := Lib.hid hls
  have HDE := Lib.hid hden
  clear hls hden hres hst
  go_upto_region 24 with fail
  refine wp_named ?_
  intro Y4 hW
  obtain ⟨qv4, hl⟩ := HLS.out.putQ hqw (by omega) hr3 HDE.out
  rw [← hW] at hl
  have HQ4 := Lib.hid hl
  clear hl hW c1 c2 HC3 HJ3 HM3 HR3 HQ3 HLS HDE
  go_wp2_with fail
  rw [rounds_succ]
  have d0 : Y4.cell? ⟨qb, 0, none⟩ = some (.int .i64 (qv4 0)) := HQ4.out.cellQ hqw 0
  have d1 : Y4.cell? ⟨qb, 1, none⟩ = some (.int .i64 (qv4 1)) := HQ4.out.cellQ hqw 1
  have d2 : Y4.cell? ⟨qb, 2, none⟩ = some (.int .i64 (qv4 2)) := HQ4.out.cellQ hqw 2
  have d3 : Y4.cell? ⟨qb, 3, none⟩ = some (.int .i64 (qv4 3)) := HQ4.out.cellQ hqw 3
  have HJ := Lib.hid (ljoin_tree (U := U) lb b t (m + 1) B Lv p4 R4 G4 (qv4 0) (qv4 1) (qv4 2) (qv4 3) ((fun k => leapT B Lv m m (sqG (fun y x => leapT B Lv m m (sqG (gridT T) y x)) (k / 2) (k % 2))) 0) ((fun k => leapT B Lv m m (sqG (fun y x => leapT B Lv m m (sqG (gridT T) y x)) (k / 2) (k % 2))) 1) ((fun k => leapT B Lv m m (sqG (fun y x => leapT B Lv m m (sqG (gridT T) y x)) (k / 2) (k % 2))) 2) ((fun k => leapT B Lv m m (sqG (fun y x => leapT B Lv m m (sqG (gridT T) y x)) (k / 2) (k % 2))) 3) Y4 HQ4.out.st.1 HQ4.out.res.wf HQ4.out.st.2.1 HQ4.out.lbF ⟨HQ4.out.qI 0, HQ4.out.qI 1, HQ4.out.qI 2, HQ4.out.qI 3⟩ ht (by omega) (fun e => ⟨HQ4.out.qD e 0 (by omega), HQ4.out.qD e 1 (by omega), HQ4.out.qD e 2 (by omega), HQ4.out.qD e 3 (by omega)⟩) HUL.out)
  go_wp2_with fail
  refine HJ.out.mono ?_
  rintro e Z ⟨A, a, v, P, rfl, ⟨s, rfl, hs, hres, hden⟩, hst⟩
  have HF := Lib.hid (HQ4.out.go hst hres)
  have HDE := Lib.hid hden
  clear hres hden hst d0 d1 d2 d3
  go_wp2_with fail
  go_ret
  exact ⟨A, a, .int .i64 s, P, rfl, ⟨s, rfl, hs, HF.out.res, HDE.out⟩, HF.out.st⟩
end Go.Proofs.Ytabhpbkkjijfjaa
