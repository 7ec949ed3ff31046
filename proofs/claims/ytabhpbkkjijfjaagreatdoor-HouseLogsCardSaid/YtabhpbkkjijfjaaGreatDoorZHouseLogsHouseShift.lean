/-
  house's shift.
-/
import Derived.Test.YtabhpbkkjijfjaaGreatDoorZHouseLogs12
namespace Go.Proofs.YtabhpbkkjijfjaaGreatDoor
set_option maxRecDepth 100000
open Go.RowKit

theorem PortAt.cells {pb hb : Nat} {p : PortS} {cv o0 ov : Value} {w : World} {F : Nat → Prop} (h : PortAt pb hb p cv o0 ov w F) : w.cell? ⟨pb, 0, none⟩ = some (ptrV hb) ∧ w.cell? ⟨pb, 1, none⟩ = some (.string p.kept) ∧ w.cell? ⟨pb, 2, none⟩ = some cv ∧ w.cell? ⟨pb, 3, none⟩ = some o0 ∧ w.cell? ⟨pb, 4, none⟩ = some ov :=
  ⟨Joins.cell_of_block h.out.blk 0, Joins.cell_of_block h.out.blk 1, Joins.cell_of_block h.out.blk 2, Joins.cell_of_block h.out.blk 3, Joins.cell_of_block h.out.blk 4⟩
/-- The lines that have come, laid anew. -/
theorem PortAt.laid {pb hb : Nat} {p : PortS} {cv o0 ov : Value} {w : World} {F : Nat → Prop} (h : PortAt pb hb p cv o0 ov w F) {u : Value} {l : List ByteArray} {w' : World} (hrow : Row w' 9 1 u l.length (l.map strV)) (hu : ∀ g, u.ownBlock = some g → F g) (hw : w'.heap[pb]? = some (.cells (portArr hb p.kept u o0 ov) 66 (0, 0))) (ho : ∀ g, ov.ownBlock = some g → w'.heap[g]? = w.heap[g]?) (hz : w.heap.size ≤ w'.heap.size) : PortAt pb hb { p with come := l } u o0 ov w' F := by
  refine ⟨⟨hw, h.out.c0, h.out.c1, ?_, h.out.ty, h.out.nil⟩, hrow, h.fp, hu, h.fo, fun i hi => Nat.lt_of_lt_of_le (h.lt i hi) hz⟩
  obtain ⟨h1, h2⟩ := h.out.own
  refine ⟨h1, ?_⟩
  rcases h2 with ⟨e1, e2⟩ | ⟨g, cap, cur, e, hg, hc, h3⟩
  · exact .inl ⟨e1, e2⟩
  · exact .inr ⟨g, cap, cur, e, hg, (ho g (by rw [e]; rfl)).trans hc, h3⟩
/-- The first line is gone. -/
theorem PortAt.popped {pb hb : Nat} {p : PortS} {a : Option Addr} {n c : Nat} {o0 ov : Value} {w : World} {F : Nat → Prop} {x : ByteArray} {l : List ByteArray} (h : PortAt pb hb p (.slice a n c) o0 ov w F) (hl : p.come = x :: l) (hn : n = l.length + 1) : ∃ g o, a = some ⟨g, o, none⟩ ∧ w.cell? ⟨g, o, none⟩ = some (.string x) ∧ F g ∧ g < w.heap.size ∧
    PortAt pb hb { p with come := l } (.slice (some ⟨g, if c = 1 then o else o + 1, none⟩) (n - 1) (c - 1)) o0 ov (w.setCell ⟨pb, 2, none⟩ (.slice (some ⟨g, if c = 1 then o else o + 1, none⟩) (n - 1) (c - 1))) F := by
  have hr := h.come
  have hlen : p.come.length = n := by rw [hl, List.length_cons]; omega
  rw [hlen] at hr
  obtain ⟨g, o, rfl, hcell, _, hgl⟩ := hr.cells (by omega)
  obtain ⟨g', o', e, hcut⟩ := hr.cut (k := 1) (by omega) (by omega)
  cases e
  have hx : w.cell? ⟨g, o, none⟩ = some (.string x) := by
    have := hcell 0 (by omega)
    rw [Nat.add_zero, hl] at this
    exact this
  have hFg := h.fc g rfl
  have hblk := Joins.block_setCell (i := 2) h.out.blk (.slice (some ⟨g, if c = 1 then o else o + 1, none⟩) (n - 1) (c - 1))
  have hgp : g ≠ pb := fun e => hr.ne_type h.out.blk (by decide) (by rw [← e]; rfl)
  refine ⟨g, o, rfl, hx, hFg, hgl, h.laid ?_ (fun q hq => ?_) hblk (fun q hq => ?_) (by simp [World.setCell])⟩
  · rw [hl, List.map_cons, Nat.one_mul] at hcut
    have e2 : n - 1 = l.length := by omega
    rw [← e2]
    refine Row.keep (w := w) ?_ fun q hq => Below.heap_setCell _ _ _ _ (fun e => hgp ?_)
    · simpa using hcut
    · simp [Value.ownBlock] at hq
      rw [hq]; exact e
  · simp [Value.ownBlock] at hq
    rw [← hq]; exact hFg
  · exact Below.heap_setCell _ _ _ _ (fun e => h.out.ne (by rw [hq]; exact congrArg some e))
/-- Behind some rounds of shift. -/
structure ShSt (w : World) (pb hb tb t : Nat) (p : PortS) (st : TurnSt) (o0 ov : Value) (Fp Ft : Nat → Prop) (l : List ByteArray) (cv : Value) (st1 : TurnSt) (Ft1 : Nat → Prop) (W : World) : Prop where
  port : PortAt pb hb { p with come := l } cv o0 ov W Fp
  turns : IsTurns tb st1 W Ft1
  same : shiftF l st1 t = shiftF p.come st t
  far : ∀ i, Ft1 i → Ft i ∨ w.heap.size ≤ i
  keep : Keeps (fun i => i = pb ∨ Ft i) w W
  apart : ∀ i, Ft1 i → ¬ Fp i
theorem ShSt.still {w W W' : World} {pb hb tb t : Nat} {p : PortS} {st st1 : TurnSt} {o0 ov cv : Value} {Fp Ft Ft1 : Nat → Prop} {l : List ByteArray} (h : ShSt w pb hb tb t p st o0 ov Fp Ft l cv st1 Ft1 W) (k : Keeps (fun _ => False) W W') : ShSt w pb hb tb t p st o0 ov Fp Ft l cv st1 Ft1 W' :=
  ⟨h.port.keep k (fun _ _ e => e), h.turns.keep k (fun _ _ e => e), h.same, h.far, h.keep.trans k (fun _ _ e => e.elim), h.apart⟩
theorem ShSt.pushed {w W W' : World} {pb hb tb t : Nat} {p : PortS} {st st1 : TurnSt} {o0 ov cv : Value} {Fp Ft Ft1 Ft2 : Nat → Prop} {l : List ByteArray} (h : ShSt w pb hb tb t p st o0 ov Fp Ft l cv st1 Ft1 W) {st2 : TurnSt} (ht : IsTurns tb st2 W' Ft2) (hf : ∀ i, Ft2 i → Ft1 i ∨ W.heap.size ≤ i) (k : Keeps Ft1 W W') (hs : shiftF l st2 t = shiftF p.come st t) : ShSt w pb hb tb t p st o0 ov Fp Ft l cv st2 Ft2 W' := by
  have hz := h.keep.size
  refine ⟨h.port.keep k (fun i hi e => h.apart i e hi), ht, hs, fun i hi => ?_, h.keep.trans k (fun i hi e => ?_), fun i hi e => ?_⟩
  · rcases hf i hi with e | e
    · exact h.far i e
    · exact .inr (by omega)
  · rcases h.far i e with e1 | e1
    · exact .inr e1
    · omega
  · rcases hf i hi with e1 | e1
    · exact h.apart i e1 e
    · have := h.port.lt i e; omega
theorem keeps_drewN (w : World) (n : Nat) : Keeps (fun _ => False) w (w.drewN n) := ⟨rfl, rfl, rfl, Nat.le_refl _, fun _ _ _ => rfl⟩
theorem meas_at {W : World} {pb q c : Nat} {a : Option Addr} (h : W.cell? ⟨pb, 2, none⟩ = some (.slice a q c)) : (match W.cell? ⟨pb, 2, none⟩ with | some (.slice _ n _) => n | _ => 0) = q := by rw [h]
set_option maxHeartbeats 4000000 in
set_option maxRecDepth 100000 in
theorem shift_by (b n t : Nat) (pb hb tb g o c : Nat) (p : PortS) (st : TurnSt) (arr : Array Value) (cv o0 ov : Value) (w : World) (Fp Ft Fh : Nat → Prop)
    (hblk : w.heap[b]? = some (.cells arr 55 (0, 0))) (h1 : arr[1]? = some (.slice (some ⟨g, o, none⟩) n c)) (h2 : arr[2]? = some (ptrV tb)) (hpr : w.cell? ⟨g, o + t, none⟩ = some (ptrV pb)) (htn : t < n)
    (hport : PortAt pb hb p cv o0 ov w Fp) (hturns : IsTurns tb st w Ft) (_hlt : ∀ i, Ft i → i < w.heap.size) (d1 : Fh b ∧ Fh g) (d2 : ∀ i, Fh i → i < w.heap.size ∧ ¬ Fp i ∧ ¬ Ft i) (d3 : ∀ i, Ft i → ¬ Fp i) :
    Calls Tryz.prog 21 #[ptrV b, .int .i64 t] w fun e w' => e = .returned (.tuple #[]) ∧ ∃ cv' Ft', ShSt w pb hb tb t p st o0 ov Fp Ft (shiftF p.come st t).1 cv' (shiftF p.come st t).2 Ft' w' := by
  unfold ptrV at *
  have hkeep : ∀ W : World, Keeps (fun i => i = pb ∨ Ft i) w W → W.cell? ⟨b, 2, none⟩ = some (.pointer (some ⟨tb, 0, none⟩)) := fun W hk => by
    have hb := (hk.block b (d2 b d1.1).1 fun e => by
      rcases e with e | e
      · exact (d2 b d1.1).2.1 (by rw [e]; exact hport.fp)
      · exact (d2 b d1.1).2.2 e).trans hblk
    exact (Joins.cell_of_block hb 2).trans h2
  have HK := Lib.hid hkeep
  have k1 : w.cell? ⟨b, 1, none⟩ = some (.slice (some ⟨g, o, none⟩) n c) := (Joins.cell_of_block hblk 1).trans h1
  have HP := Lib.hid hport
  have HL0 : Aside (ShSt w pb hb tb t p st o0 ov Fp Ft p.come cv st Ft w) := ⟨hport, hturns, rfl, fun i hi => .inl hi, Keeps.refl _ _, d3⟩
  have i1 : (0 : Int) ≤ (t : Int) := by omega
  have i2 : (t : Int) < (n : Int) := by omega
  clear hblk h1 h2 hport hturns d1 d2 d3 hkeep
  go_enter Tryz.func21, Tryz.ntmps21
  go_upto_region 1 with fail
  clear hpr k1
  go_loopw [] (fun ws => ∃ l cv1 st1 Ft1, Aside (ShSt w pb hb tb t p st o0 ov Fp Ft l cv1 st1 Ft1 ws)) (fun ws => match ws.cell? ⟨pb, 2, none⟩ with | some (.slice _ n _) => n | _ => 0)
  case atStart => exact ⟨p.come, cv, st, Ft, HL0⟩
  case round =>
    obtain ⟨l, cv1, st1, Ft1, HS⟩ := hrel
    obtain ⟨ca, cc, hcv, hqc, hcm, _⟩ := HS.out.port.come.form
    obtain ⟨_, _, k2, _, _⟩ := HS.out.port.cells
    obtain ⟨q, hq⟩ : ∃ q, q = l.length := ⟨_, rfl⟩
    have hql : ({ p with come := l } : PortS).come.length = q := hq.symm
    rw [hql] at hcv hqc
    subst hcv
    have HQ := Lib.hid hq
    have hq48 : q ≤ 9223372036854775807 := by unfold maxLen at hcm; omega
    clear hql hq
    cases l with
    | nil =>
      obtain rfl : q = 0 := HQ.out
      have HE : Aside (shiftF p.come st t = ([], st1)) := by
        show _ = _
        rw [← HS.out.same]; rfl
      go_upto_region 1 with fail
      go_quiet (fail)
      go_wp2_with fail
      go_end0
      refine ⟨rfl, .slice ca 0 cc, Ft1, ?_⟩
      rw [HE.out]
      exact HS.out.still (keeps_drewN wr _)
    | cons x l =>
      have hq1 : q = l.length + 1 := HQ.out
      obtain ⟨g1, o1, rfl, k3, hFg, hgl, hpop⟩ := HS.out.port.popped (x := x) (l := l) rfl hq1
      have k4 := HK.out wr HS.out.keep
      have t1 : decide ((q : Int) > 0) = true := decide_eq_true (by omega)
      have t2 : decide (0 < q) = true := decide_eq_true (by omega)
      have t3 : decide ((0 : Int) < (q : Int)) = true := decide_eq_true (by omega)
      have HPU := Lib.hid (push_any tb st1 Ft1 (t : Int) x wr.drew HS.out.turns.drew)
      have hkp : ∀ W, Keeps Ft1 wr.drew W → W.cell? ⟨pb, 2, none⟩ = some (.slice (some ⟨g1, o1, none⟩) q cc) ∧ W.cell? ⟨g1, o1, none⟩ = some (.string x) ∧ W.cell? ⟨b, 2, none⟩ = some (.pointer (some ⟨tb, 0, none⟩)) := fun W hk => by
        have hpb : pb < wr.heap.size := HS.out.port.lt pb HS.out.port.fp
        refine ⟨(hk.cell (p := ⟨pb, 2, none⟩) hpb (fun e => HS.out.apart _ e HS.out.port.fp)).trans k2, (hk.cell (p := ⟨g1, o1, none⟩) hgl (fun e => HS.out.apart _ e hFg)).trans k3, HK.out W ?_⟩
        have hz := HS.out.keep.size
        refine HS.out.keep.drew.trans hk fun i hi e => ?_
        rcases HS.out.far i e with e1 | e1
        · exact .inr e1
        · omega
      have HKP := Lib.hid hkp
      have HKR := Lib.hid (hkp wr.drew (Keeps.refl _ _))
      clear hkp
      go_upto_region 1 with fail
      clear k2 k3 k4
      go_region_held3 (fun w' => w'.cell? ⟨pb, 2, none⟩ = some (.slice (some ⟨g1, o1, none⟩) q cc) ∧ w'.cell? ⟨g1, o1, none⟩ = some (.string x) ∧ w'.cell? ⟨b, 2, none⟩ = some (.pointer (some ⟨tb, 0, none⟩))) (first | exact HKR.out | exact HKP.out _ HKS.out) ((go_at_call 33; (with_reducible refine HPU.out.mono ?_); rintro e w2 ⟨rfl, Ft2, hT2, hf2, hk2⟩; have HKS := Lib.hid hk2))
      by_cases hz0 : (turnPush st1 (t : Int) x).1 = 0
      · have v1 : ((turnPush st1 (t : Int) x).1 == 0) = true := by simpa using hz0
        have hs2 : shiftF l (turnPush st1 (t : Int) x).2 t = shiftF p.come st t := by
          rw [← HS.out.same, shiftF, if_pos hz0]
        have hN : ShSt w pb hb tb t p st o0 ov Fp Ft (x :: l) (.slice (some ⟨g1, o1, none⟩) q cc) st1 Ft1 wr.drew := HS.out.still (Keeps.refl _ wr).drew
        have hport2 : PortAt pb hb { p with come := x :: l } (.slice (some ⟨g1, o1, none⟩) q cc) o0 ov w2 Fp := hN.port.keep hk2 (fun i hi e => hN.apart i e hi)
        obtain ⟨_, _, e1, _, _, _, hP2⟩ := hport2.popped (x := x) (l := l) rfl hq1
        cases e1
        have hK3 : Keeps (fun i => i = pb) w2 (w2.setCell ⟨pb, 2, none⟩ (.slice (some ⟨g1, if cc = 1 then o1 else o1 + 1, none⟩) (q - 1) (cc - 1))) := (Keeps.refl (fun i => i = pb) w2).setCell (p := ⟨pb, 2, none⟩) (fun _ => rfl) _
        have hpb2 := hport2.lt pb hport2.fp
        have k2 := (hport2.cells).2.2.1
        have f2 : w2.frozen? ⟨pb, 2, none⟩ = false := Joins.unfrozen_of_block hport2.out.blk 2
        have HN3 := Lib.hid (show ShSt w pb hb tb t p st o0 ov Fp Ft l (.slice (some ⟨g1, if cc = 1 then o1 else o1 + 1, none⟩) (q - 1) (cc - 1)) (turnPush st1 (t : Int) x).2 Ft2 (w2.setCell ⟨pb, 2, none⟩ (.slice (some ⟨g1, if cc = 1 then o1 else o1 + 1, none⟩) (q - 1) (cc - 1))) from by
          have hz := hN.keep.size
          have hFp : ∀ i, Ft2 i → ¬ Fp i := fun i hi e => by
            rcases hf2 i hi with e1 | e1
            · exact hN.apart i e1 e
            · have := hN.port.lt i e; omega
          refine ⟨hP2, hT2.keep hK3 (fun i hi e => hFp i hi (by rw [e]; exact hport2.fp)), hs2, fun i hi => ?_, (hN.keep.trans hk2 fun i hi e => ?_).trans hK3 fun _ _ e => .inl e, hFp⟩
          · rcases hf2 i hi with e | e
            · exact hN.far i e
            · exact .inr (Nat.le_trans hz e)
          · rcases hN.far i e with e1 | e1
            · exact .inr e1
            · omega)
        have i3 : (1 : Int) ≤ (q : Int) := by omega
        clear hs2 hN hport2 hP2 hK3 hpb2 hT2 hf2 hk2 hz0
        rw [v1]
        have hqm : q - 1 = l.length := by omega
        rw [hqm] at HN3
        have hend := HN3.out.port.cells.2.2.1
        have hold := HS.out.port.cells.2.2.1
        have HM := Lib.hid (show (match (w2.setCell ⟨pb, 2, none⟩ (.slice (some ⟨g1, if cc = 1 then o1 else o1 + 1, none⟩) l.length (cc - 1))).cell? ⟨pb, 2, none⟩ with | some (.slice _ n _) => n | _ => 0) < (match wr.cell? ⟨pb, 2, none⟩ with | some (.slice _ n _) => n | _ => 0) from by
          rw [meas_at hend, meas_at hold]; omega)
        clear hend hold hqm
        by_cases hc1 : cc = 1
        · subst hc1
          rw [if_pos rfl] at HN3 HM
          go_wp2_with fail
          exact ⟨⟨l, _, _, Ft2, HN3.out⟩, HM.out⟩
        · rw [if_neg hc1] at HN3 HM
          go_wp2_with fail
          exact ⟨⟨l, _, _, Ft2, HN3.out⟩, HM.out⟩
      · have v1 : ((turnPush st1 (t : Int) x).1 == 0) = false := by simpa using hz0
        have HE : Aside (shiftF p.come st t = (x :: l, st1)) := by
          show _ = _
          rw [← HS.out.same, shiftF, if_neg hz0]
        rw [turnPush_no hz0] at hT2
        have HN := Lib.hid ((HS.out.still (Keeps.refl _ wr).drew).pushed hT2 hf2 hk2 HS.out.same)
        clear hz0 hT2 hf2 hk2
        rw [v1]
        go_wp2_with fail
        go_end0
        refine ⟨rfl, .slice (some ⟨g1, o1, none⟩) q cc, Ft2, ?_⟩
        rw [HE.out]
        exact HN.out
end Go.Proofs.YtabhpbkkjijfjaaGreatDoor
