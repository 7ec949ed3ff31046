/-
  One move of both arenas.
-/
import Derived.Test.YtdmamecfmfhlmaaZArenaPlaysReTrio2
namespace Go.Proofs.Ytdmamecfmfhlmaa
set_option maxRecDepth 100000
open Go.RowKit

/-- What a move of both comes to. -/
def MovedOk (ba br bd B : Nat) (D : List Nat) (w : World) (e : Ending) (w' : World) : Prop :=
  e = .returned (.bool true) ∧ ∃ (S' : ArS) (R' : RSt) (D' : List Nat), Sim S' R' ∧ Inv S' ∧ (∀ d ∈ D', d ≤ 1000000) ∧ D'.length ≤ D.length + 1 ∧ Trio ba br bd B (fun _ => False) w S' R' D' w'
theorem Trio.unbox {ba br bd B : Nat} {P : Nat → Prop} {X w w' : World} {S : ArS} {R : RSt} {D : List Nat} (h : Trio ba br bd B P X S R D w') (hb : Below w.heap.size w X) (hB : B ≤ w.heap.size) : Trio ba br bd B (fun _ => False) w S R D w' := by
  obtain ⟨F, G, H, dv, h1, h2, h3, h4, h5, h6, h7⟩ := h.mem
  exact ⟨⟨F, G, H, dv, h1, h2, h3, h4, h5, h6, fun i hi => ⟨(h7 i hi).1, fun e => e⟩⟩, (Keeps.of_below hb).trans h.keep (fun i _ hi => ⟨hi.1, fun e => e⟩), fun _ e => e.elim, hB⟩
/-- A new box beside. -/
def BoxAt (X : World) (o : Obj) (qb : Nat) (W : World) : Prop := Below X.heap.size X W ∧ X.heap.size ≤ qb ∧ W.heap[qb]? = some o
theorem BoxAt.new {X W : World} {o : Obj} (h : Below X.heap.size X W) : BoxAt X o W.heap.size (W.alloc o) := ⟨h.alloc h.size _, h.size, blk_last W _ rfl⟩
def zero4 : Obj := .cells #[.int .i64 0, .int .i64 0, .int .i64 0, .int .i64 0] 61 (0, 0)
theorem box_last {X W : World} {q0 q1 q2 q3 : Int} (h : Below X.heap.size X W) : Aside (Below X.heap.size X (W.alloc (.cells #[.int .i64 q0, .int .i64 q1, .int .i64 q2, .int .i64 q3] 61)) ∧ X.heap.size ≤ W.heap.size ∧ (W.alloc (.cells #[.int .i64 q0, .int .i64 q1, .int .i64 q2, .int .i64 q3] 61)).heap[W.heap.size]? = some (.cells #[.int .i64 q0, .int .i64 q1, .int .i64 q2, .int .i64 q3] 61 (0, 0))) := ⟨h.alloc h.size _, h.size, blk_last W _ rfl⟩
theorem box_set {X W : World} {qb : Nat} {q0 q1 q2 q3 : Int} (h : BoxAt X zero4 qb W) : Aside (Below X.heap.size X ((((W.setCell ⟨qb, 0, none⟩ (.int .i64 q0)).setCell ⟨qb, 1, none⟩ (.int .i64 q1)).setCell ⟨qb, 2, none⟩ (.int .i64 q2)).setCell ⟨qb, 3, none⟩ (.int .i64 q3)) ∧ X.heap.size ≤ qb ∧ ((((W.setCell ⟨qb, 0, none⟩ (.int .i64 q0)).setCell ⟨qb, 1, none⟩ (.int .i64 q1)).setCell ⟨qb, 2, none⟩ (.int .i64 q2)).setCell ⟨qb, 3, none⟩ (.int .i64 q3)).heap[qb]? = some (.cells #[.int .i64 q0, .int .i64 q1, .int .i64 q2, .int .i64 q3] 61 (0, 0))) :=
  ⟨(((h.1.setCell (p := ⟨qb, 0, none⟩) h.2.1 _).setCell (p := ⟨qb, 1, none⟩) h.2.1 _).setCell (p := ⟨qb, 2, none⟩) h.2.1 _).setCell (p := ⟨qb, 3, none⟩) h.2.1 _, h.2.1, set4 h.2.2⟩
/-- What the law's moved is asked. -/
structure Ask (ba br bd B : Nat) (S : ArS) (R : RSt) (D : List Nat) (t a0 a1 a2 a3 : Int) (w : World) : Prop where
  trio : Trio ba br bd B (fun _ => False) w S R D w
  sim : Sim S R
  inv : Inv S
  small : ∀ d ∈ D, d ≤ 1000000
  few : D.length ≤ 1000
  i64 : I64 t ∧ I64 a0 ∧ I64 a1 ∧ I64 a2 ∧ I64 a3
def moveV (kd t a0 a1 a2 a3 : Int) : Value := .agg #[.int .i64 kd, .int .i64 t, .int .i64 a0, .int .i64 a1, .int .i64 a2, .int .i64 a3]
def moveO (kd t a0 a1 a2 a3 : Int) : Obj := .cells #[.int .i64 kd, .int .i64 t, .int .i64 a0, .int .i64 a1, .int .i64 a2, .int .i64 a3] 63
set_option maxHeartbeats 8000000 in
set_option maxRecDepth 100000 in
theorem moved_any (ba br bd B : Nat) (S : ArS) (R : RSt) (D : List Nat) (kd t a0 a1 a2 a3 : Int) (w : World) (h : Ask ba br bd B S R D t a0 a1 a2 a3 w) :
    Calls Try.prog 27 #[.pointer (some ⟨ba, 0, none⟩), .pointer (some ⟨br, 0, none⟩), .pointer (some ⟨bd, 0, none⟩), moveV kd t a0 a1 a2 a3] w (MovedOk ba br bd B D w) := by
  obtain ⟨X, hX⟩ : ∃ X, X = w.alloc (.cells #[.int .i64 kd, .int .i64 t, .int .i64 a0, .int .i64 a1, .int .i64 a2, .int .i64 a3] 63) := ⟨_, rfl⟩
  have hbX : Below w.heap.size w X := by rw [hX]; exact (Below.refl _ _).alloc (Nat.le_refl _) _
  have hx0 : X.heap[w.heap.size]? = some (.cells #[.int .i64 kd, .int .i64 t, .int .i64 a0, .int .i64 a1, .int .i64 a2, .int .i64 a3] 63 (0, 0)) := by rw [hX]; exact blk_last w _ rfl
  have hzX : w.heap.size < X.heap.size := by rw [hX]; simp
  obtain ⟨htr, hsim, hinv, hsm, hfw, hi1, hi2, hi3, hi4, hi5⟩ := h
  have hT := htr.boxed hbX
  obtain ⟨dv, H, hI, -⟩ := hT.ids
  have hbl := lt_of_block hI.own
  obtain ⟨q0, hq0⟩ : ∃ q, q = ofD D a0 := ⟨_, rfl⟩
  obtain ⟨q1, hq1⟩ : ∃ q, q = ofD D a1 := ⟨_, rfl⟩
  obtain ⟨q2, hq2⟩ : ∃ q, q = ofD D a2 := ⟨_, rfl⟩
  obtain ⟨q3, hq3⟩ : ∃ q, q = ofD D a3 := ⟨_, rfl⟩
  have hof : ∀ n W, I64 n → Below X.heap.size X W → Calls Try.prog 55 #[.agg #[dv], .int .i64 n] W fun e w' => e = .returned (.int .i64 (ofD D n)) ∧ Below X.heap.size X w' := fun n W hn hW =>
    (of_any dv D n W (hI.row.keep fun q hq => hW.block q (hI.row.lt q hq)) (by omega) hn).mono fun e w' ⟨e1, e2⟩ => ⟨e1, hW.trans (e2.mono hW.size)⟩
  have hob : ∀ n qb W, I64 n → BoxAt X zero4 qb W → Calls Try.prog 55 #[.agg #[dv], .int .i64 n] W fun e w' => e = .returned (.int .i64 (ofD D n)) ∧ BoxAt X zero4 qb w' := fun n qb W hn hW =>
    (of_any dv D n W (hI.row.keep fun q hq => hW.1.block q (hI.row.lt q hq)) (by omega) hn).mono fun e w' ⟨e1, e2⟩ => ⟨e1, hW.1.trans (e2.mono hW.1.size), hW.2.1, (e2.block _ (lt_of_block hW.2.2)).trans hW.2.2⟩
  have hz : ∀ qb W, BoxAt X zero4 qb W → W.cell? ⟨qb, 0, none⟩ = some (.int .i64 0) ∧ W.cell? ⟨qb, 1, none⟩ = some (.int .i64 0) ∧ W.cell? ⟨qb, 2, none⟩ = some (.int .i64 0) ∧ W.cell? ⟨qb, 3, none⟩ = some (.int .i64 0) ∧ ∀ j, W.frozen? ⟨qb, j, none⟩ = false := fun qb W hW =>
    ⟨Joins.cell_of_block hW.2.2 0, Joins.cell_of_block hW.2.2 1, Joins.cell_of_block hW.2.2 2, Joins.cell_of_block hW.2.2 3, fun j => Joins.unfrozen_of_block hW.2.2 j⟩
  have HZ := Lib.hid hz
  have HB0 := Lib.hid (fun qb W hW => by have := hob a0 qb W hi2 hW; rwa [← hq0] at this)
  have HB1 := Lib.hid (fun qb W hW => by have := hob a1 qb W hi3 hW; rwa [← hq1] at this)
  have HB2 := Lib.hid (fun qb W hW => by have := hob a2 qb W hi4 hW; rwa [← hq2] at this)
  have HB3 := Lib.hid (fun qb W hW => by have := hob a3 qb W hi5 hW; rwa [← hq3] at this)
  have HN0 := Lib.hid (show ∀ W, Below X.heap.size X W → Calls Try.prog 55 #[.agg #[dv], .int .i64 a0] (W.alloc (.cells #[.int .i64 0, .int .i64 0, .int .i64 0, .int .i64 0] 61)) fun e w' => e = .returned (.int .i64 q0) ∧ BoxAt X zero4 W.heap.size w' from fun W hW => by have := hob a0 W.heap.size _ hi2 (BoxAt.new (o := zero4) hW); rwa [← hq0] at this)
  have HN1 := Lib.hid (show ∀ W, Below X.heap.size X W → Calls Try.prog 55 #[.agg #[dv], .int .i64 a1] (W.alloc (.cells #[.int .i64 0, .int .i64 0, .int .i64 0, .int .i64 0] 61)) fun e w' => e = .returned (.int .i64 q1) ∧ BoxAt X zero4 W.heap.size w' from fun W hW => by have := hob a1 W.heap.size _ hi3 (BoxAt.new (o := zero4) hW); rwa [← hq1] at this)
  have HN2 := Lib.hid (show ∀ W, Below X.heap.size X W → Calls Try.prog 55 #[.agg #[dv], .int .i64 a2] (W.alloc (.cells #[.int .i64 0, .int .i64 0, .int .i64 0, .int .i64 0] 61)) fun e w' => e = .returned (.int .i64 q2) ∧ BoxAt X zero4 W.heap.size w' from fun W hW => by have := hob a2 W.heap.size _ hi4 (BoxAt.new (o := zero4) hW); rwa [← hq2] at this)
  have HN3 := Lib.hid (show ∀ W, Below X.heap.size X W → Calls Try.prog 55 #[.agg #[dv], .int .i64 a3] (W.alloc (.cells #[.int .i64 0, .int .i64 0, .int .i64 0, .int .i64 0] 61)) fun e w' => e = .returned (.int .i64 q3) ∧ BoxAt X zero4 W.heap.size w' from fun W hW => by have := hob a3 W.heap.size _ hi5 (BoxAt.new (o := zero4) hW); rwa [← hq3] at this)
  have HD0 := Lib.hid (show Calls Try.prog 55 #[.agg #[dv], .int .i64 a0] (X.alloc (.cells #[.int .i64 0, .int .i64 0, .int .i64 0, .int .i64 0] 61)).drew fun e w' => e = .returned (.int .i64 q0) ∧ BoxAt X zero4 X.heap.size w' from by
    have hb : BoxAt X zero4 X.heap.size (X.alloc zero4).drew := ⟨((Below.refl _ X).alloc (Nat.le_refl _) _).drew, Nat.le_refl _, blk_last X zero4 rfl⟩
    have := hob a0 X.heap.size _ hi2 hb
    rwa [← hq0] at this)
  have HO0 := Lib.hid (fun W hW => by have := hof a0 W hi2 hW; rwa [← hq0] at this)
  have HO1 := Lib.hid (fun W hW => by have := hof a1 W hi3 hW; rwa [← hq1] at this)
  have HO2 := Lib.hid (fun W hW => by have := hof a2 W hi4 hW; rwa [← hq2] at this)
  have HO3 := Lib.hid (fun W hW => by have := hof a3 W hi5 hW; rwa [← hq3] at this)
  have hkeep : ∀ w', Below X.heap.size X w' → w'.cell? ⟨bd, 0, none⟩ = some dv ∧ w'.cell? ⟨w.heap.size, 2, none⟩ = some (.int .i64 a0) ∧ w'.cell? ⟨w.heap.size, 3, none⟩ = some (.int .i64 a1) ∧ w'.cell? ⟨w.heap.size, 4, none⟩ = some (.int .i64 a2) ∧ w'.cell? ⟨w.heap.size, 5, none⟩ = some (.int .i64 a3) := fun w' hk => by
    have h0 := (hk.block _ hbl).trans hI.own
    have h1 := (hk.block _ hzX).trans hx0
    exact ⟨Joins.cell_of_block h0 0, Joins.cell_of_block h1 2, Joins.cell_of_block h1 3, Joins.cell_of_block h1 4, Joins.cell_of_block h1 5⟩
  have HK := Lib.hid hkeep
  have HXX := Lib.hid (show Below X.heap.size X X.drew from (Below.refl _ X).drew)
  have HX := Lib.hid hX
  have HT := Lib.hid hT
  have HBX := Lib.hid hbX
  have HX0 := Lib.hid hx0
  have HSIM := Lib.hid hsim
  have HINV := Lib.hid hinv
  have HSM := Lib.hid hsm
  have HLOW := Lib.hid htr.low
  have HTR := Lib.hid htr
  have HOK := Lib.hid htr.ok
  have HGD := Lib.hid (good_of htr.ok htr.goodE hsim)
  have HFW := Lib.hid hfw
  have HI := Lib.hid (show I64 t ∧ I64 a0 ∧ I64 a1 ∧ I64 a2 ∧ I64 a3 from ⟨hi1, hi2, hi3, hi4, hi5⟩)
  have HQI := Lib.hid (show I64 q0 ∧ I64 q1 ∧ I64 q2 ∧ I64 q3 from ⟨by rw [hq0]; exact ofD_i64 hsm hi2, by rw [hq1]; exact ofD_i64 hsm hi3, by rw [hq2]; exact ofD_i64 hsm hi4, by rw [hq3]; exact ofD_i64 hsm hi5⟩)
  have HQS := Lib.hid (show q0 = ofD D a0 ∧ q1 = ofD D a1 ∧ q2 = ofD D a2 ∧ q3 = ofD D a3 from ⟨hq0, hq1, hq2, hq3⟩)
  have x1 := Joins.cell_of_block hx0 1
  simp at x1
  unfold moveV
  clear hX hbX hx0 htr hsim hinv hsm hT hI hbl hof hob hz hkeep hq0 hq1 hq2 hq3 hfw hi1 hi2 hi3 hi4 hi5
  go_enter Try.func27, Try.ntmps27
  go_upto_region 1 with fail
  rw [← HX.out]
  go_upto_region 2 with fail
  clear x1
  go_cut [10] from 29 to 57 (fun qv wx => ∃ qb : Nat, qv = .pointer (some ⟨qb, 0, none⟩) ∧ Aside (Below X.heap.size X wx ∧ X.heap.size ≤ qb ∧ wx.heap[qb]? = some (.cells #[.int .i64 q0, .int .i64 q1, .int .i64 q2, .int .i64 q3] 61 (0, 0))))
  case first =>
    go_region_held3 (fun w' => w'.cell? ⟨bd, 0, none⟩ = some dv ∧ w'.cell? ⟨w.heap.size, 2, none⟩ = some (.int .i64 a0) ∧ w'.cell? ⟨w.heap.size, 3, none⟩ = some (.int .i64 a1) ∧ w'.cell? ⟨w.heap.size, 4, none⟩ = some (.int .i64 a2) ∧ w'.cell? ⟨w.heap.size, 5, none⟩ = some (.int .i64 a3)) (first | exact HK.out _ HXX.out | exact HK.out _ (by assumption) | exact HK.out _ (((Below.refl _ X).alloc (Nat.le_refl _) _).drew) | exact HK.out _ ((Below.refl _ X).drew.alloc (Nat.le_refl _) _) | exact HK.out _ (show BoxAt X zero4 _ _ by assumption).1 | (refine HK.out _ ?_; repeat (first | exact HXX.out | assumption | exact (show BoxAt X zero4 _ _ by assumption).1 | refine Below.setCell ?_ (by first | exact Nat.le_refl _ | (have := Below.size (show Below X.heap.size X _ by assumption); simp; omega) | exact (show BoxAt X zero4 _ _ by assumption).2.1) _ | refine Below.alloc ?_ (by first | exact Nat.le_refl _ | exact Below.size (show Below X.heap.size X _ by assumption)) _))) ((go_at_call 55; first | (with_reducible refine (HO0.out _ (by first | assumption | exact HXX.out | exact Below.refl _ _)).mono ?_; rintro e v0 ⟨rfl, k0⟩) | (with_reducible refine (HD0.out).mono ?_; rintro e v0 ⟨rfl, k0⟩; obtain ⟨z0, z1, z2, z3, zf⟩ := HZ.out _ _ k0) | (with_reducible refine (HN0.out _ (by first | assumption | exact HXX.out | exact Below.refl _ _)).mono ?_; rintro e v0 ⟨rfl, k0⟩; obtain ⟨z0, z1, z2, z3, zf⟩ := HZ.out _ _ k0) | (with_reducible refine (HB0.out _ _ (by assumption)).mono ?_; rintro e v0 ⟨rfl, k0⟩; obtain ⟨z0, z1, z2, z3, zf⟩ := HZ.out _ _ k0) | (with_reducible refine (HO1.out _ (by first | assumption | exact HXX.out | exact Below.refl _ _)).mono ?_; rintro e v1 ⟨rfl, k1⟩) | (with_reducible refine (HN1.out _ (by first | assumption | exact HXX.out | exact Below.refl _ _)).mono ?_; rintro e v1 ⟨rfl, k1⟩; obtain ⟨z0, z1, z2, z3, zf⟩ := HZ.out _ _ k1) | (with_reducible refine (HB1.out _ _ (by assumption)).mono ?_; rintro e v1 ⟨rfl, k1⟩; obtain ⟨z0, z1, z2, z3, zf⟩ := HZ.out _ _ k1) | (with_reducible refine (HO2.out _ (by first | assumption | exact HXX.out | exact Below.refl _ _)).mono ?_; rintro e v2 ⟨rfl, k2⟩) | (with_reducible refine (HN2.out _ (by first | assumption | exact HXX.out | exact Below.refl _ _)).mono ?_; rintro e v2 ⟨rfl, k2⟩; obtain ⟨z0, z1, z2, z3, zf⟩ := HZ.out _ _ k2) | (with_reducible refine (HB2.out _ _ (by assumption)).mono ?_; rintro e v2 ⟨rfl, k2⟩; obtain ⟨z0, z1, z2, z3, zf⟩ := HZ.out _ _ k2) | (with_reducible refine (HO3.out _ (by first | assumption | exact HXX.out | exact Below.refl _ _)).mono ?_; rintro e v3 ⟨rfl, k3⟩) | (with_reducible refine (HN3.out _ (by first | assumption | exact HXX.out | exact Below.refl _ _)).mono ?_; rintro e v3 ⟨rfl, k3⟩; obtain ⟨z0, z1, z2, z3, zf⟩ := HZ.out _ _ k3) | (with_reducible refine (HB3.out _ _ (by assumption)).mono ?_; rintro e v3 ⟨rfl, k3⟩; obtain ⟨z0, z1, z2, z3, zf⟩ := HZ.out _ _ k3)))
    all_goals
      go_wp2_with fail
      go_meet
      first
        | exact ⟨_, rfl, box_last (by assumption)⟩
        | exact ⟨_, rfl, box_set (by assumption)⟩
  case rest =>
  obtain ⟨qb, rfl, hcut⟩ := hcut
  have hwc : Below w.heap.size w wc := HBX.out.trans (hcut.out.1.mono HBX.out.size)
  have hTc := HTR.out.boxed hwc
  have HUN := Lib.hid (fun (S' : ArS) (R' : RSt) (D' : List Nat) (w' : World) (hh : Trio ba br bd B (fun i => w.heap.size ≤ i ∧ i < wc.heap.size) wc S' R' D' w') => hh.unbox hwc HLOW.out)
  have hmvb := (hcut.out.1.block _ hzX).trans HX0.out
  have hqbb := hcut.out.2.2
  have hpm : w.heap.size ≤ w.heap.size ∧ w.heap.size < wc.heap.size := ⟨Nat.le_refl _, lt_of_block hmvb⟩
  have hpq : w.heap.size ≤ qb ∧ qb < wc.heap.size := ⟨by have := hcut.out.2.1; omega, lt_of_block hqbb⟩
  have HBQ := Lib.hid (fun (S' : ArS) (R' : RSt) (D' : List Nat) (w' : World) (hh : Trio ba br bd B (fun i => w.heap.size ≤ i ∧ i < wc.heap.size) wc S' R' D' w') => (hh.box hpq).trans hqbb)
  have HBM := Lib.hid (fun (S' : ArS) (R' : RSt) (D' : List Nat) (w' : World) (hh : Trio ba br bd B (fun i => w.heap.size ≤ i ∧ i < wc.heap.size) wc S' R' D' w') => (hh.box hpm).trans hmvb)
  have HCL := Lib.hid (fun (S' : ArS) (R' : RSt) (D' : List Nat) (w' : World) (hh : Trio ba br bd B (fun i => w.heap.size ≤ i ∧ i < wc.heap.size) wc S' R' D' w') => show w'.cell? ⟨qb, 0, none⟩ = some (.int .i64 q0) ∧ w'.cell? ⟨qb, 1, none⟩ = some (.int .i64 q1) ∧ w'.cell? ⟨qb, 2, none⟩ = some (.int .i64 q2) ∧ w'.cell? ⟨qb, 3, none⟩ = some (.int .i64 q3) ∧ w'.cell? ⟨w.heap.size, 0, none⟩ = some (.int .i64 kd) ∧ w'.cell? ⟨w.heap.size, 2, none⟩ = some (.int .i64 a0) ∧ w'.cell? ⟨w.heap.size, 3, none⟩ = some (.int .i64 a1) ∧ w'.cell? ⟨w.heap.size, 4, none⟩ = some (.int .i64 a2) from
    ⟨Joins.cell_of_block (HBQ.out S' R' D' w' hh) 0, Joins.cell_of_block (HBQ.out S' R' D' w' hh) 1, Joins.cell_of_block (HBQ.out S' R' D' w' hh) 2, Joins.cell_of_block (HBQ.out S' R' D' w' hh) 3, Joins.cell_of_block (HBM.out S' R' D' w' hh) 0, Joins.cell_of_block (HBM.out S' R' D' w' hh) 2, Joins.cell_of_block (HBM.out S' R' D' w' hh) 3, Joins.cell_of_block (HBM.out S' R' D' w' hh) 4⟩)
  have HTC := Lib.hid hTc
  obtain ⟨y0, y1, y2, y3, m0, m2, m3, m4⟩ := HCL.out _ _ _ _ hTc
  have HSB := Lib.hid (show w.heap.size < wc.heap.size ∧ qb < wc.heap.size from ⟨hpm.2, hpq.2⟩)
  clear hcut hwc hTc hmvb hqbb hpm hpq
  by_cases hk10 : kd = 10
  · subst hk10
    obtain ⟨x, hx⟩ : ∃ x : Int, x = (liveL S.L - liveL (sweptL S.L) : Int) := ⟨_, rfl⟩
    have HA := Lib.hid (fun w' (hh : Trio ba br bd B (fun i => w.heap.size ≤ i ∧ i < wc.heap.size) wc S R D w') => by have := tA_sweep hh; rwa [← hx] at this)
    have HR := Lib.hid (fun w' (hh : Trio ba br bd B (fun i => w.heap.size ≤ i ∧ i < wc.heap.size) wc (sweptA S) R D w') => by have := tR_sweep hh HSIM.out; rwa [← hx] at this)
    clear hx
    go_wp2_with fail
    with_reducible refine Calls.mono (HA.out _ HTC.out) ?_
    rintro e w1 ⟨rfl, h1⟩
    have H1 := Lib.hid h1
    obtain ⟨y0, y1, y2, y3, m0, m2, m3, m4⟩ := HCL.out _ _ _ _ h1
    clear h1
    go_wp2_with fail
    with_reducible refine Calls.mono (HR.out _ H1.out) ?_
    rintro e w2 ⟨rfl, h2⟩
    have H2 := Lib.hid h2
    obtain ⟨y0, y1, y2, y3, m0, m2, m3, m4⟩ := HCL.out _ _ _ _ h2
    clear h2
    go_wp2_with fail
    go_ret
    exact ⟨rfl, sweptA S, sweepR R, D, HSIM.out.swept, HINV.out.swept, HSM.out, Nat.le_succ _, HUN.out _ _ _ _ H2.out⟩
  by_cases hk7 : kd = 7
  · subst hk7
    obtain ⟨x, hx⟩ : ∃ x : Int, x = if tenB t = true then 0 else 11 := ⟨_, rfl⟩
    have HA := Lib.hid (fun w' (hh : Trio ba br bd B (fun i => w.heap.size ≤ i ∧ i < wc.heap.size) wc S R D w') => by have := tA_mark hh t; rwa [← hx] at this)
    have HR := Lib.hid (fun w' (hh : Trio ba br bd B (fun i => w.heap.size ≤ i ∧ i < wc.heap.size) wc (if tenB t = true then markA S t.toNat else S) R D w') => by have := tR_mark hh t; rwa [← hx] at this)
    clear hx
    go_wp2_with fail
    with_reducible refine Calls.mono (HA.out _ HTC.out) ?_
    rintro e w1 ⟨rfl, h1⟩
    have H1 := Lib.hid h1
    obtain ⟨y0, y1, y2, y3, m0, m2, m3, m4⟩ := HCL.out _ _ _ _ h1
    clear h1
    go_wp2_with fail
    with_reducible refine Calls.mono (HR.out _ H1.out) ?_
    rintro e w2 ⟨rfl, h2⟩
    have H2 := Lib.hid h2
    obtain ⟨y0, y1, y2, y3, m0, m2, m3, m4⟩ := HCL.out _ _ _ _ h2
    clear h2
    go_wp2_with fail
    go_ret
    exact ⟨rfl, _, _, D, (by split; exact HSIM.out.marked _; exact HSIM.out), (by split; exact HINV.out.marked HOK.out.added _; exact HINV.out), HSM.out, Nat.le_succ _, HUN.out _ _ _ _ H2.out⟩
  by_cases hk8 : kd = 8
  · subst hk8
    obtain ⟨x, hx⟩ : ∃ x : Int, x = undoN S t := ⟨_, rfl⟩
    have HA := Lib.hid (fun w' (hh : Trio ba br bd B (fun i => w.heap.size ≤ i ∧ i < wc.heap.size) wc S R D w') => by have := tA_undo hh HINV.out t; rwa [← hx] at this)
    have HR := Lib.hid (fun w' (hh : Trio ba br bd B (fun i => w.heap.size ≤ i ∧ i < wc.heap.size) wc (if tenB t = true then undoA S t.toNat else S) R D w') => by have := tR_undo hh HSIM.out HGD.out t; rwa [← hx] at this)
    clear hx
    go_wp2_with fail
    with_reducible refine Calls.mono (HA.out _ HTC.out) ?_
    rintro e w1 ⟨rfl, h1⟩
    have H1 := Lib.hid h1
    obtain ⟨y0, y1, y2, y3, m0, m2, m3, m4⟩ := HCL.out _ _ _ _ h1
    clear h1
    go_wp2_with fail
    with_reducible refine Calls.mono (HR.out _ H1.out) ?_
    rintro e w2 ⟨rfl, h2⟩
    have H2 := Lib.hid h2
    obtain ⟨y0, y1, y2, y3, m0, m2, m3, m4⟩ := HCL.out _ _ _ _ h2
    clear h2
    go_wp2_with fail
    go_ret
    exact ⟨rfl, _, _, D, (by split; exact (undo_same HSIM.out _).1; exact HSIM.out), (by split; (next ht => exact HINV.out.undone HOK.out.added (ten_lt ht)); exact HINV.out), HSM.out, Nat.le_succ _, HUN.out _ _ _ _ H2.out⟩
  by_cases hk3 : kd = 3
  · subst hk3
    obtain ⟨x, hx⟩ : ∃ x : Int, x = (levelA S t q0).1 := ⟨_, rfl⟩
    obtain ⟨y, hy⟩ : ∃ y : Int, y = (levelA S t q0).2 := ⟨_, rfl⟩
    have HA := Lib.hid (fun w' (hh : Trio ba br bd B (fun i => w.heap.size ≤ i ∧ i < wc.heap.size) wc S R D w') => by have := tA_level hh t q0; rwa [← hx, ← hy] at this)
    have HR := Lib.hid (fun w' (hh : Trio ba br bd B (fun i => w.heap.size ≤ i ∧ i < wc.heap.size) wc S R D w') => by have := tR_level hh HOK.out HSIM.out t q0; rwa [← hx, ← hy] at this)
    clear hx hy
    go_wp2_with fail
    with_reducible refine Calls.mono (HA.out _ HTC.out) ?_
    rintro e w1 ⟨rfl, h1⟩
    have H1 := Lib.hid h1
    obtain ⟨y0, y1, y2, y3, m0, m2, m3, m4⟩ := HCL.out _ _ _ _ h1
    clear h1
    go_wp2_with fail
    with_reducible refine Calls.mono (HR.out _ H1.out) ?_
    rintro e w2 ⟨rfl, h2⟩
    have H2 := Lib.hid h2
    obtain ⟨y0, y1, y2, y3, m0, m2, m3, m4⟩ := HCL.out _ _ _ _ h2
    clear h2
    go_wp2_with fail
    go_ret
    exact ⟨rfl, S, R, D, HSIM.out, HINV.out, HSM.out, Nat.le_succ _, HUN.out _ _ _ _ H2.out⟩
  by_cases hk5 : kd = 5
  · subst hk5
    obtain ⟨x, hx⟩ : ∃ x : Int, x = (recallA S t q0 a1 a2).1 := ⟨_, rfl⟩
    obtain ⟨y, hy⟩ : ∃ y : Bool, y = (recallA S t q0 a1 a2).2 := ⟨_, rfl⟩
    have HA := Lib.hid (fun w' (hh : Trio ba br bd B (fun i => w.heap.size ≤ i ∧ i < wc.heap.size) wc S R D w') => by have := tA_recall hh t q0 a1 a2 HQI.out.1 HI.out.2.2.1 HI.out.2.2.2.1; rwa [← hx, ← hy] at this)
    have HR := Lib.hid (fun w' (hh : Trio ba br bd B (fun i => w.heap.size ≤ i ∧ i < wc.heap.size) wc S R D w') => by have := tR_recall hh HOK.out HSIM.out HGD.out t q0 a1 a2 HQI.out.1 HI.out.2.2.1 HI.out.2.2.2.1; rwa [← hx, ← hy] at this)
    clear hx hy
    go_wp2_with fail
    with_reducible refine Calls.mono (HA.out _ HTC.out) ?_
    rintro e w1 ⟨rfl, h1⟩
    have H1 := Lib.hid h1
    obtain ⟨y0, y1, y2, y3, m0, m2, m3, m4⟩ := HCL.out _ _ _ _ h1
    clear h1
    go_wp2_with fail
    with_reducible refine Calls.mono (HR.out _ H1.out) ?_
    rintro e w2 ⟨rfl, h2⟩
    have H2 := Lib.hid h2
    obtain ⟨y0, y1, y2, y3, m0, m2, m3, m4⟩ := HCL.out _ _ _ _ h2
    clear h2
    go_wp2_with fail
    go_ret
    exact ⟨rfl, S, R, D, HSIM.out, HINV.out, HSM.out, Nat.le_succ _, HUN.out _ _ _ _ H2.out⟩
  by_cases hk6 : kd = 6
  · subst hk6
    obtain ⟨x, hx⟩ : ∃ x : Int, x = if limB S.room t a0 = true then 0 else 3 := ⟨_, rfl⟩
    have HA := Lib.hid (fun w' (hh : Trio ba br bd B (fun i => w.heap.size ≤ i ∧ i < wc.heap.size) wc S R D w') => by have := tA_limit hh t a0; rwa [← hx] at this)
    have HR := Lib.hid (fun S' w' (hh : Trio ba br bd B (fun i => w.heap.size ≤ i ∧ i < wc.heap.size) wc S' R D w') => by have := tR_limit hh t a0; rwa [HSIM.out.room, ← hx] at this)
    clear hx
    have HTD := Lib.hid (HTC.out.below (Below.refl _ _).drew)
    go_upto_region 25 with fail
    go_region_held3 (fun w' => w'.cell? ⟨qb, 0, none⟩ = some (.int .i64 q0) ∧ w'.cell? ⟨qb, 1, none⟩ = some (.int .i64 q1) ∧ w'.cell? ⟨qb, 2, none⟩ = some (.int .i64 q2) ∧ w'.cell? ⟨qb, 3, none⟩ = some (.int .i64 q3) ∧ w'.cell? ⟨w.heap.size, 0, none⟩ = some (.int .i64 6) ∧ w'.cell? ⟨w.heap.size, 2, none⟩ = some (.int .i64 a0) ∧ w'.cell? ⟨w.heap.size, 3, none⟩ = some (.int .i64 a1) ∧ w'.cell? ⟨w.heap.size, 4, none⟩ = some (.int .i64 a2)) (first | exact HCL.out _ _ _ _ (by assumption) | exact HCL.out _ _ _ _ HTD.out) ((first | (go_at_call 65; with_reducible refine Calls.mono (HA.out _ (by first | assumption | exact HTD.out)) ?_; rintro e w1 ⟨rfl, h1⟩) | (go_at_call 66; with_reducible refine Calls.mono (HR.out _ _ (by assumption)) ?_; rintro e w2 ⟨rfl, h2⟩)))
    have H2 := Lib.hid h2
    clear h1 h2
    go_wp2_with fail
    go_ret
    exact ⟨rfl, _, _, D, (by split; exact HSIM.out.limited _ _; exact HSIM.out), (by split; exact HINV.out.limited _ _; exact HINV.out), HSM.out, Nat.le_succ _, HUN.out _ _ _ _ H2.out⟩
  by_cases hk4 : kd = 4
  · subst hk4
    have HA := Lib.hid (fun w' (hh : Trio ba br bd B (fun i => w.heap.size ≤ i ∧ i < wc.heap.size) wc S R D w') => tA_note hh t q0 a1 a2 q3 HQI.out.1 HI.out.2.2.1 HI.out.2.2.2.1 HQI.out.2.2.2)
    have HR := Lib.hid (fun S' w' (hh : Trio ba br bd B (fun i => w.heap.size ≤ i ∧ i < wc.heap.size) wc S' R D w') => tR_note hh HGD.out t q0 a1 a2 q3 HQI.out.1 HI.out.2.2.1 HI.out.2.2.2.1)
    have HTD := Lib.hid (HTC.out.below (Below.refl _ _).drew)
    go_upto_region 19 with fail
    go_region_held3 (fun w' => w'.cell? ⟨qb, 0, none⟩ = some (.int .i64 q0) ∧ w'.cell? ⟨qb, 1, none⟩ = some (.int .i64 q1) ∧ w'.cell? ⟨qb, 2, none⟩ = some (.int .i64 q2) ∧ w'.cell? ⟨qb, 3, none⟩ = some (.int .i64 q3) ∧ w'.cell? ⟨w.heap.size, 0, none⟩ = some (.int .i64 4) ∧ w'.cell? ⟨w.heap.size, 2, none⟩ = some (.int .i64 a0) ∧ w'.cell? ⟨w.heap.size, 3, none⟩ = some (.int .i64 a1) ∧ w'.cell? ⟨w.heap.size, 4, none⟩ = some (.int .i64 a2)) (first | exact HCL.out _ _ _ _ (by assumption) | exact HCL.out _ _ _ _ HTD.out) ((first | (go_at_call 61; with_reducible refine Calls.mono (HA.out _ (by first | assumption | exact HTD.out)) ?_; rintro e w1 ⟨er, S', rfl, hj, h1⟩; have HJ := Lib.hid hj; clear hj) | (go_at_call 62; with_reducible refine Calls.mono (HR.out _ _ (by assumption)) ?_; rintro e w2 ⟨er2, R', rfl, hj2, h2⟩; have HJ2 := Lib.hid hj2; clear hj2)))
    have H2 := Lib.hid h2
    obtain ⟨rfl, hsim'⟩ := note_same HOK.out HSIM.out HJ.out HJ2.out
    have HS2 := Lib.hid hsim'
    clear h1 h2 hsim'
    go_wp2_with fail
    go_ret
    exact ⟨by rw [show (er == er) = true by simp]; rfl, _, _, D, HS2.out, inv_note HOK.out HINV.out HJ.out, HSM.out, Nat.le_succ _, HUN.out _ _ _ _ H2.out⟩
  by_cases hk9 : kd = 9
  · subst hk9
    have hsrcA : Src ((wc.alloc (.cells #[.int .i64 q0, .int .i64 q1] 3)).drew) 1 (some ⟨wc.heap.size, 0, none⟩) 2 (([q0, q1] : List Int).map intV) := ⟨rfl, fun _ => ⟨_, rfl, news_alloc wc _ _ rfl⟩⟩
    have h64 : ∀ r ∈ ([q0, q1] : List Int), I64 r := fun r hr => by
      have hr' : r = q0 ∨ r = q1 := by simpa using hr
      rcases hr' with rfl | rfl
      · exact HQI.out.1
      · exact HQI.out.2.1
    have HA := Lib.hid (show Calls Try.prog 71 #[.pointer (some ⟨ba, 0, none⟩), .int .i64 t, .slice (some ⟨wc.heap.size, 0, none⟩) 2 2] (wc.alloc (.cells #[.int .i64 q0, .int .i64 q1] 3)).drew fun e w2 => ∃ (m : Int) (S' : ArS), e = .returned (.int .i64 m) ∧ CleanRelA S t [q0, q1] m S' ∧ Trio ba br bd B (fun i => w.heap.size ≤ i ∧ i < wc.heap.size) wc S' R D w2 from tA_clean (HTC.out.below ((Below.refl _ _).alloc (Nat.le_refl _) _).drew) t [q0, q1] _ 2 2 hsrcA h64 (by omega))
    have HR := Lib.hid (show ∀ (S' : ArS) (w' : World), Trio ba br bd B (fun i => w.heap.size ≤ i ∧ i < wc.heap.size) wc S' R D w' → Calls Try.prog 72 #[.pointer (some ⟨br, 0, none⟩), .int .i64 t, .slice (some ⟨qb, 0, none⟩) 2 4] w' fun e w2 => ∃ (m : Int) (R' : RSt), e = .returned (.int .i64 m) ∧ CleanRelR R t [q0, q1] m R' ∧ Trio ba br bd B (fun i => w.heap.size ≤ i ∧ i < wc.heap.size) wc S' R' D w2 from fun S' w' hh => tR_clean hh HOK.out HINV.out HSIM.out HGD.out t [q0, q1] _ 2 4 ⟨rfl, fun _ => ⟨_, rfl, fun j u hu => by
      obtain ⟨y0, y1, -⟩ := HCL.out _ _ _ _ hh
      have hj : j < 2 := by have := (List.getElem?_eq_some_iff.1 hu).1; simpa using this
      rcases (show j = 0 ∨ j = 1 by omega) with rfl | rfl
      · rw [← hu]; exact y0
      · rw [← hu]; exact y1⟩⟩ h64 (by omega))
    clear hsrcA h64
    have HTD := Lib.hid (HTC.out.below (Below.refl _ _).drew)
    go_upto_region 31 with fail
    go_region_held3 (fun w' => w'.cell? ⟨qb, 0, none⟩ = some (.int .i64 q0) ∧ w'.cell? ⟨qb, 1, none⟩ = some (.int .i64 q1) ∧ w'.cell? ⟨qb, 2, none⟩ = some (.int .i64 q2) ∧ w'.cell? ⟨qb, 3, none⟩ = some (.int .i64 q3) ∧ w'.cell? ⟨w.heap.size, 0, none⟩ = some (.int .i64 9) ∧ w'.cell? ⟨w.heap.size, 2, none⟩ = some (.int .i64 a0) ∧ w'.cell? ⟨w.heap.size, 3, none⟩ = some (.int .i64 a1) ∧ w'.cell? ⟨w.heap.size, 4, none⟩ = some (.int .i64 a2)) (first | exact HCL.out _ _ _ _ (by assumption) | exact HCL.out _ _ _ _ HTD.out | exact HCL.out _ _ _ _ (HTC.out.below ((Below.refl _ _).alloc (Nat.le_refl _) _).drew)) ((first | (go_at_call 71; with_reducible refine Calls.mono HA.out ?_; rintro e w1 ⟨m1, S', rfl, hj, h1⟩; have HJ := Lib.hid hj; clear hj) | (go_at_call 72; with_reducible refine Calls.mono (HR.out _ _ (by assumption)) ?_; rintro e w2 ⟨m3', R', rfl, hj2, h2⟩; have HJ2 := Lib.hid hj2; clear hj2)))
    all_goals
      have H2 := Lib.hid h2
      obtain ⟨rfl, hsim', hinv'⟩ := clean_both HOK.out HINV.out HSIM.out HJ.out HJ2.out
      have HS2 := Lib.hid hsim'
      have HI2 := Lib.hid hinv'
      clear h1 h2 hsim' hinv'
      go_wp2_with fail
      go_ret
      exact ⟨by rw [show (m1 == m1) = true by simp]; rfl, _, _, D, HS2.out, HI2.out, HSM.out, Nat.le_succ _, HUN.out _ _ _ _ H2.out⟩
  by_cases hk2 : kd = 2
  · subst hk2
    have hk64 := kids_i64 (S := S) HTC.out.goodE t q0
    obtain ⟨⟨k0, k1, k2, k3⟩, hk4⟩ : ∃ k : Four, k = (kidsA S t q0).1 := ⟨_, rfl⟩
    obtain ⟨y, hy⟩ : ∃ y : Int, y = (kidsA S t q0).2 := ⟨_, rfl⟩
    rw [← hk4] at hk64
    have HA := Lib.hid (show ∀ w', Trio ba br bd B (fun i => w.heap.size ≤ i ∧ i < wc.heap.size) wc S R D w' → Calls Try.prog 58 #[.pointer (some ⟨ba, 0, none⟩), .int .i64 t, .int .i64 q0] w' fun e w2 => e = .returned (.tuple #[.agg #[.int .i64 k0, .int .i64 k1, .int .i64 k2, .int .i64 k3], .int .i64 y]) ∧ Trio ba br bd B (fun i => w.heap.size ≤ i ∧ i < wc.heap.size) wc S R D w2 from fun w' hh => by have := tA_kids hh t q0; rwa [← hk4, ← hy] at this)
    have HR := Lib.hid (show ∀ w', Trio ba br bd B (fun i => w.heap.size ≤ i ∧ i < wc.heap.size) wc S R D w' → Calls Try.prog 59 #[.pointer (some ⟨br, 0, none⟩), .int .i64 t, .int .i64 q0] w' fun e w2 => e = .returned (.tuple #[.agg #[.int .i64 k0, .int .i64 k1, .int .i64 k2, .int .i64 k3], .int .i64 y]) ∧ Trio ba br bd B (fun i => w.heap.size ≤ i ∧ i < wc.heap.size) wc S R D w2 ∧ Below w'.heap.size w' w2 from fun w' hh => by have := tR_kids2 hh HOK.out HSIM.out t q0; rwa [← hk4, ← hy] at this)
    have heq := fun W => eq4 k0 k1 k2 k3 k0 k1 k2 k3 hk64 hk64 W
    rw [decide_eq_true ⟨rfl, rfl, rfl, rfl⟩] at heq
    clear hk4 hy hk64
    go_wp2_with fail
    with_reducible refine Calls.mono (HA.out _ HTC.out) ?_
    rintro e w1 ⟨rfl, h1⟩
    obtain ⟨Y, hY⟩ : ∃ Y, Y = w1.alloc (.cells #[.int .i64 k0, .int .i64 k1, .int .i64 k2, .int .i64 k3] 61) := ⟨_, rfl⟩
    have hyb : Y.heap[w1.heap.size]? = some (.cells #[.int .i64 k0, .int .i64 k1, .int .i64 k2, .int .i64 k3] 61 (0, 0)) := by rw [hY]; exact blk_last w1 _ rfl
    have hTY : Trio ba br bd B (fun i => w.heap.size ≤ i ∧ i < wc.heap.size) wc S R D Y := by rw [hY]; exact h1.below ((Below.refl _ _).alloc (Nat.le_refl _) _)
    obtain ⟨y0, y1, y2, y3, m0, m2, m3, m4⟩ := HCL.out _ _ _ _ hTY
    have HYB := Lib.hid hyb
    have HTY := Lib.hid hTY
    have HYE := Lib.hid hY
    clear h1 hY hyb hTY
    go_upto_region 12 with fail
    rw [← HYE.out]
    go_wp2_with fail
    with_reducible refine Calls.mono (HR.out _ HTY.out) ?_
    rintro e w2 ⟨rfl, h2, hb2⟩
    have hb4 := (hb2.block _ (lt_of_block HYB.out)).trans HYB.out
    have z0 := Joins.cell_of_block hb4 0
    have z1 := Joins.cell_of_block hb4 1
    have z2 := Joins.cell_of_block hb4 2
    have z3 := Joins.cell_of_block hb4 3
    simp at z0 z1 z2 z3
    have hne : w1.heap.size < w2.heap.size := lt_of_block hb4
    have H2 := Lib.hid h2
    clear h2 hb2 hb4
    go_wp2_with fail
    go_ret
    exact ⟨rfl, S, R, D, HSIM.out, HINV.out, HSM.out, Nat.le_succ _, HUN.out _ _ _ _ (H2.out.below ((Below.refl _ _).alloc (Nat.le_refl _) _))⟩
  by_cases hk1 : kd = 1
  · subst hk1
    have HA := Lib.hid (show ∀ w', Trio ba br bd B (fun i => w.heap.size ≤ i ∧ i < wc.heap.size) wc S R D w' → Calls Try.prog 56 #[.pointer (some ⟨ba, 0, none⟩), .int .i64 t, .agg #[.int .i64 q0, .int .i64 q1, .int .i64 q2, .int .i64 q3]] w' fun e w2 => ∃ (r er : Int) (S' : ArS), e = .returned (.tuple #[.int .i64 r, .int .i64 er]) ∧ JoinR S t (q0, q1, q2, q3) r er S' ∧ Trio ba br bd B (fun i => w.heap.size ≤ i ∧ i < wc.heap.size) wc S' R D w2 from fun w' hh => tA_join hh t (q0, q1, q2, q3) HQI.out)
    have HR := Lib.hid (show ∀ (S' : ArS) (w' : World), Trio ba br bd B (fun i => w.heap.size ≤ i ∧ i < wc.heap.size) wc S' R D w' → Calls Try.prog 57 #[.pointer (some ⟨br, 0, none⟩), .int .i64 t, .agg #[.int .i64 q0, .int .i64 q1, .int .i64 q2, .int .i64 q3]] w' fun e w2 => ∃ (r er : Int) (R' : RSt), e = .returned (.tuple #[.int .i64 r, .int .i64 er]) ∧ JoinRel R t (q0, q1, q2, q3) r er R' ∧ Trio ba br bd B (fun i => w.heap.size ≤ i ∧ i < wc.heap.size) wc S' R' D w2 from fun S' w' hh => tR_join hh HGD.out t (q0, q1, q2, q3) HQI.out)
    go_wp2_with fail
    with_reducible refine Calls.mono (HA.out _ HTC.out) ?_
    rintro e w1 ⟨r, er, S', rfl, hj, h1⟩
    have HJ := Lib.hid hj
    obtain ⟨y0, y1, y2, y3, m0, m2, m3, m4⟩ := HCL.out _ _ _ _ h1
    have H1 := Lib.hid h1
    clear h1 hj
    go_wp2_with fail
    with_reducible refine Calls.mono (HR.out _ _ H1.out) ?_
    rintro e w2 ⟨r2, er2, R', rfl, hj2, h2⟩
    obtain ⟨rfl, rfl, hsim'⟩ := join_same HOK.out HSIM.out HJ.out hj2
    have HS2 := Lib.hid hsim'
    have HI2 := Lib.hid (inv_join HOK.out HINV.out HJ.out)
    have H2 := Lib.hid h2
    clear h2 hsim' hj2
    by_cases he : er = 0
    · subst he
      obtain ⟨i, rfl, hi6⟩ := join_num HOK.out HJ.out
      obtain ⟨dv2, H3, hI2, hst⟩ := H2.out.ids
      have HST := Lib.hid hst
      have HI3 := Lib.hid hI2
      have hrow := hI2.row
      obtain ⟨n, hn⟩ : ∃ n, n = D.length := ⟨_, rfl⟩
      obtain ⟨va, vc, hvf, _, _, _⟩ := hrow.form
      have d0 := Joins.cell_of_block hI2.own 0
      simp at d0
      rw [hvf, ← hn] at d0
      rw [hvf, ← hn] at hrow
      obtain ⟨i0, hi, hz0, hz1, hz2⟩ := info_parts infoNum
      have HR7 := Lib.hid (show Row (w2.alloc (.cells #[.int .i64 i] 3)) 3 1 (.slice va n vc) n (D.map idV) from hrow.keep fun g hg => Below.heap_alloc w2 _ g (hrow.lt g hg))
      have hbdl := lt_of_block hI2.own
      have hbn : some bd ≠ (Value.slice va n vc).ownBlock := fun e => hrow.ne_type hI2.own (by decide) e.symm
      have hnn : n ≤ 1000 := by rw [hn]; exact HFW.out
      have M3 := Lib.hid (show n + 1 ≤ maxLen by unfold maxLen; omega)
      have M4 := Lib.hid (show (n + 1) * 8 ≤ 140737488355328 by omega)
      have HN := Lib.hid hn
      have HVF := Lib.hid hvf
      have HBN := Lib.hid hbn
      have fz := Joins.unfrozen_of_block hI2.own 0
      have HFZ := Lib.hid fz
      clear hst hI2 hrow hn hvf hbn fz
      go_upto_region 8 with fail
      go_wp2_with ((at_builtin; go_loud (refine wpList_append_row _ rfl (.tmp 82) (.tmp 84) 57 rfl 3 i0 _ 1 8 Try.underlying57 hi hz0 hz1 hz2 rfl (by omega) (.slice va n vc) n (D.map idV) rfl HR7.out ⟨w2.heap.size, 0, none⟩ 1 1 [.int .i64 i] rfl rfl (news_alloc w2 _ _ rfl) (by simp [Value.oneCell']) (by omega) M3.out M4.out _ rfl ?_; intro g6 off cap w6 hrow6 hg6 hat6; have z1 : w6.cell? ⟨bd, 0, none⟩ = some (.slice va n vc) := (hg6.cell_far (a := ⟨bd, 0, none⟩) (by simp; omega) HBN.out).trans ((World.cell?_of_block (Below.heap_alloc w2 _ bd hbdl)).trans d0); have z2 : w6.frozen? ⟨bd, 0, none⟩ = false := (hg6.frozen_far (a := ⟨bd, 0, none⟩) (by simp; omega) HBN.out).trans ((World.frozen?_of_block (Below.heap_alloc w2 _ bd hbdl)).trans HFZ.out))))
      go_ret
      have hI3 := HI3.out
      have hb6 : w6.heap[bd]? = some (.cells #[dv2] 59 (0, 0)) := by
        rw [hg6.block bd (by simp; omega) HBN.out]
        exact (Below.heap_alloc w2 _ bd hbdl).trans hI3.own
      have hv6 : ∀ q, (Value.slice (some ⟨g6, off, none⟩) (n + 1) cap).ownBlock = some q → H3 q ∨ w2.heap.size ≤ q := fun q hq => by
        obtain rfl : g6 = q := by simpa [Value.ownBlock] using hq
        rcases hat6 with e | e
        · exact .inl (hI3.hv g6 (by rw [HVF.out, ← HN.out]; exact e))
        · exact .inr (by rw [e]; simp)
      have hgd : g6 ≠ bd := fun e => by
        rcases hat6 with e1 | e1
        · exact HBN.out (by rw [← e]; exact e1.symm)
        · rw [e1] at e; simp at e; omega
      have hK6 : Keeps H3 w2 (w6.setCell ⟨bd, 0, none⟩ (.slice (some ⟨g6, off, none⟩) (n + 1) cap)) := Keeps.setCell (p := ⟨bd, 0, none⟩) (Keeps.grown ((Keeps.refl H3 w2).alloc (.cells #[.int .i64 i] 3)) hg6 fun g' hg' _ => hI3.hv g' (by rw [HVF.out, ← HN.out]; exact hg')) (fun _ => hI3.hb) _
      have hI6 : IdsAt bd (.slice (some ⟨g6, off, none⟩) (n + 1) cap) (D ++ [i]) (w6.setCell ⟨bd, 0, none⟩ (.slice (some ⟨g6, off, none⟩) (n + 1) cap)) (fun k => H3 k ∨ (Value.slice (some ⟨g6, off, none⟩) (n + 1) cap).ownBlock = some k) := by
        refine ⟨Joins.block_setCell hb6 _, ?_, .inl hI3.hb, fun q hq => .inr hq, fun k hk => ?_⟩
        · rw [List.length_append, List.length_singleton, ← HN.out, List.map_append]
          exact Row.keep (show Row w6 3 1 (.slice (some ⟨g6, off, none⟩) (n + 1) cap) (n + 1) (D.map idV ++ [i].map idV) from hrow6) fun q hq => by
            obtain rfl : g6 = q := by simpa [Value.ownBlock] using hq
            exact Below.heap_setCell _ _ _ _ hgd
        · rcases hk with hk | hk
          · exact Nat.lt_of_lt_of_le (hI3.lt k hk) hK6.size
          · have := hrow6.lt k hk
            simpa [World.setCell] using this
      have hT6 := HST.out (D ++ [i]) _ _ _ hI6 (fun k hk => by
        rcases hk with hk | hk
        · exact .inl hk
        · exact hv6 k hk) hK6
      exact ⟨rfl, S', R', D ++ [i], HS2.out, HI2.out, fun d hd => by
        rcases List.mem_append.1 hd with hd | hd
        · exact HSM.out d hd
        · obtain rfl : d = i := by simpa using hd
          exact hi6, by rw [List.length_append]; exact Nat.le_refl _, HUN.out _ _ _ _ hT6⟩
    · have g0 : (er == 0) = false := by simpa using he
      go_wp2_with fail
      go_ret
      exact ⟨rfl, S', R', D, HS2.out, HI2.out, HSM.out, Nat.le_succ _, HUN.out _ _ _ _ H2.out⟩
  have g1 : (kd == 1) = false := by simpa using hk1
  have g2 : (kd == 2) = false := by simpa using hk2
  have g3 : (kd == 3) = false := by simpa using hk3
  have g4 : (kd == 4) = false := by simpa using hk4
  have g5 : (kd == 5) = false := by simpa using hk5
  have g6 : (kd == 6) = false := by simpa using hk6
  have g7 : (kd == 7) = false := by simpa using hk7
  have g8 : (kd == 8) = false := by simpa using hk8
  have g9 : (kd == 9) = false := by simpa using hk9
  have g10 : (kd == 10) = false := by simpa using hk10
  obtain ⟨x, hx⟩ : ∃ x : Int, x = if tenB t = true then (countL S.L t.toNat : Int) else 0 := ⟨_, rfl⟩
  have HA := Lib.hid (fun w' (hh : Trio ba br bd B (fun i => w.heap.size ≤ i ∧ i < wc.heap.size) wc S R D w') => by have := tA_count hh t; rwa [← hx] at this)
  have HR := Lib.hid (fun w' (hh : Trio ba br bd B (fun i => w.heap.size ≤ i ∧ i < wc.heap.size) wc S R D w') => by have := tR_count hh HSIM.out t; rwa [← hx] at this)
  clear hx
  go_wp2_with fail
  with_reducible refine Calls.mono (HA.out _ HTC.out) ?_
  rintro e w1 ⟨rfl, h1⟩
  have H1 := Lib.hid h1
  obtain ⟨y0, y1, y2, y3, m0, m2, m3, m4⟩ := HCL.out _ _ _ _ h1
  clear h1
  go_wp2_with fail
  with_reducible refine Calls.mono (HR.out _ H1.out) ?_
  rintro e w2 ⟨rfl, h2⟩
  have H2 := Lib.hid h2
  obtain ⟨y0, y1, y2, y3, m0, m2, m3, m4⟩ := HCL.out _ _ _ _ h2
  clear h2
  go_wp2_with fail
  go_ret
  exact ⟨rfl, S, R, D, HSIM.out, HINV.out, HSM.out, Nat.le_succ _, HUN.out _ _ _ _ H2.out⟩
end Go.Proofs.Ytdmamecfmfhlmaa
