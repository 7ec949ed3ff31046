/-
  The law's shift: lines that have come go into the document's queue, as far as there is room.
-/
import Derived.Test.YtabhpbkkjijfjaaGreatDoorZHouseLogsLogMem
import Derived.Test.YtabhpbkkjijfjaaGreatDoorZHouseLogsQueuePush
import Derived.Test.YtabhpbkkjijfjaaGreatDoorZHouseLogsHouseShift
namespace Go.Proofs.YtabhpbkkjijfjaaGreatDoor
set_option maxRecDepth 100000
open Go.RowKit

/-- Behind some rounds of shift. -/
structure QsSt (w : World) (bq qb cb t : Nat) (q : QueueSt) (C : List (List ByteArray)) (l0 : List ByteArray) (g : Nat) (G K : Nat → Prop) (l : List ByteArray) (vs1 : List Value) (q1 : QueueSt) (G1 : Nat → Prop) (W : World) : Prop where
  qc : QCAt bq qb cb q1 (C.set t l) g vs1 W G1 K
  same : shiftQ l q1 t = shiftQ l0 q t
  far : ∀ i, G1 i → G i ∨ w.heap.size ≤ i
  keep : Keeps (fun i => G i ∨ K i) w W
  small : q1.wait.length + l.length ≤ 100000
theorem QsSt.still {w W W' : World} {bq qb cb t g : Nat} {q q1 : QueueSt} {C : List (List ByteArray)} {l0 l : List ByteArray} {G K G1 : Nat → Prop} {vs1 : List Value} (h : QsSt w bq qb cb t q C l0 g G K l vs1 q1 G1 W) (k : Keeps (fun _ => False) W W') : QsSt w bq qb cb t q C l0 g G K l vs1 q1 G1 W' :=
  ⟨h.qc.keep k fun _ _ e => e, h.same, h.far, h.keep.trans k fun _ _ e => e.elim, h.small⟩
theorem getElem?_set_some {α : Type} {C : List α} {t : Nat} {l : α} (ht : t < C.length) : (C.set t l)[t]? = some l := List.getElem?_set_self ht
set_option maxHeartbeats 8000000 in
set_option maxRecDepth 100000 in
theorem qshift_by {bq qb cb t g : Nat} {q : QueueSt} {C : List (List ByteArray)} {vs : List Value} {l0 : List ByteArray} {w : World} {G K : Nat → Prop} (h : QCAt bq qb cb q C g vs w G K) (hl0 : C[t]? = some l0) (hsm : q.wait.length + l0.length ≤ 100000) (hn : C.length ≤ 64) :
    Calls Tryz.prog 6 #[.int .i64 t, .pointer (some ⟨cb, 0, none⟩), .pointer (some ⟨qb, 0, none⟩)] w fun e w' => e = .returned (.tuple #[]) ∧ ∃ vs' G', QsSt w bq qb cb t q C l0 g G K (shiftQ l0 q t).1 vs' (shiftQ l0 q t).2 G' w' := by
  have htC := (List.getElem?_eq_some_iff.1 hl0).1
  have hCs : C.set t l0 = C := by
    obtain ⟨h1, h2⟩ := List.getElem?_eq_some_iff.1 hl0
    rw [← h2, List.set_getElem_self]
  obtain ⟨n, hnn⟩ : ∃ n, n = C.length := ⟨_, rfl⟩
  have hS0 : QsSt w bq qb cb t q C l0 g G K l0 vs q G w := ⟨by rw [hCs]; exact h, rfl, fun i hi => .inl hi, Keeps.refl _ _, hsm⟩
  have HS0 := Lib.hid hS0
  have HC := Lib.hid (And.intro htC hnn)
  have i1 : (0 : Int) ≤ (t : Int) := by omega
  have i2 : (t : Int) < (n : Int) := by omega
  have hn64 : n ≤ 64 := by omega
  clear h hl0 hsm hn hCs hnn hS0 htC
  go_enter Tryz.func6, Tryz.ntmps6
  go_upto_region 0 with fail
  go_loopw [] (fun ws => ∃ l vs1 q1 G1, Aside (QsSt w bq qb cb t q C l0 g G K l vs1 q1 G1 ws)) (fun ws => match ws.cell? ⟨g, t, none⟩ with | some (.slice _ n _) => n | _ => 0)
  case atStart => exact ⟨l0, vs, q, G, HS0.out⟩
  case round =>
    obtain ⟨l, vs1, q1, G1, HS⟩ := hrel
    have hlen : (C.set t l).length = n := by rw [List.length_set]; exact HC.out.2.symm
    have htv : t < vs1.length := by rw [HS.out.qc.come.len, hlen]; have := HC.out; omega
    obtain ⟨v, hv⟩ : ∃ v, vs1[t]? = some v := ⟨_, List.getElem?_eq_getElem htv⟩
    have hgl : (C.set t l)[t]? = some l := getElem?_set_some HC.out.1
    have hr := HS.out.qc.come.rows t v hv
    rw [show (C.set t l).getD t [] = l by rw [List.getD_eq_getElem?_getD, hgl]; rfl] at hr
    obtain ⟨a, c, hvf, hpc, hcm, -⟩ := hr.form
    obtain ⟨p, hp⟩ : ∃ p, p = l.length := ⟨_, rfl⟩
    rw [← hp] at hvf hpc
    subst hvf
    have k1 : wr.cell? ⟨cb, 0, none⟩ = some (.slice (some ⟨g, 0, none⟩) n n) := by
      have e := Joins.cell_of_block HS.out.qc.come.own 0
      rw [hlen] at e
      exact e
    have k2 : wr.cell? ⟨g, t, none⟩ = some (.slice a p c) := by rw [Joins.cell_of_block HS.out.qc.come.row t]; simpa using hv
    have k3 : wr.cell? ⟨qb, 0, none⟩ = some (.pointer (some ⟨bq, 0, none⟩)) := Joins.cell_of_block HS.out.qc.box 0
    have HV := Lib.hid (And.intro hv (And.intro hgl hlen))
    have HP := Lib.hid hp
    have hq48 : p ≤ 9223372036854775807 := by unfold maxLen at hcm; omega
    clear hlen htv hv hgl hr hp hcm
    cases l with
    | nil =>
      obtain rfl : p = 0 := HP.out
      have HE : Aside (shiftQ l0 q t = ([], q1)) := by
        show _ = _
        rw [← HS.out.same]; rfl
      go_upto_region 0 with fail
      go_quiet (fail)
      go_wp2_with fail
      go_end0
      refine ⟨rfl, vs1, G1, ?_⟩
      rw [HE.out]
      exact HS.out.still (keeps_drewN wr _)
    | cons x l =>
      have hq1 : p = l.length + 1 := HP.out
      obtain ⟨k, o, rfl, k4, -, -, -⟩ := HS.out.qc.popped HV.out.1 HV.out.2.1 hq1
      have t1 : decide ((p : Int) > 0) = true := decide_eq_true (by omega)
      have t2 : decide (0 < p) = true := decide_eq_true (by omega)
      have t3 : decide ((0 : Int) < (p : Int)) = true := decide_eq_true (by omega)
      have hsm := HS.out.small
      have HPU := Lib.hid (qpush_any bq q1 q1.wait.length G1 (t : Int) x wr.drew HS.out.qc.queue.drew (by omega))
      have hkp : ∀ W, Keeps G1 wr.drew W → W.cell? ⟨cb, 0, none⟩ = some (.slice (some ⟨g, 0, none⟩) n n) ∧ W.cell? ⟨g, t, none⟩ = some (.slice (some ⟨k, o, none⟩) p c) ∧ W.cell? ⟨qb, 0, none⟩ = some (.pointer (some ⟨bq, 0, none⟩)) ∧ W.cell? ⟨k, o, none⟩ = some (.string x) := fun W hk => by
        have hK : ∀ j, K j → j < wr.heap.size ∧ ¬ G1 j := fun j hj => ⟨HS.out.qc.come.lt j hj, fun e => HS.out.qc.a1 j e hj⟩
        have c1 := hK cb HS.out.qc.come.fb
        have c2 := hK g HS.out.qc.come.fg
        have c4 := hK k (HS.out.qc.come.fr t _ k HV.out.1 rfl)
        exact ⟨(hk.cell (p := ⟨cb, 0, none⟩) c1.1 c1.2).trans k1, (hk.cell (p := ⟨g, t, none⟩) c2.1 c2.2).trans k2, (hk.cell (p := ⟨qb, 0, none⟩) (lt_of_block HS.out.qc.box) HS.out.qc.a2).trans k3, (hk.cell (p := ⟨k, o, none⟩) c4.1 c4.2).trans k4⟩
      have HKP := Lib.hid hkp
      have HKR := Lib.hid (hkp wr.drew (Keeps.refl _ _))
      have HQ1 := Lib.hid hq1
      have hp0 : 1 ≤ p := by omega
      have i3 : (1 : Int) ≤ (p : Int) := by omega
      have i4 : (p : Int) ≤ (c : Int) := by omega
      have i5 : (0 : Int) < (p : Int) := by omega
      have i6 : (0 : Int) ≤ (c : Int) := by omega
      have i8 : 0 < p := by omega
      have i7 : (1 : Int) ≤ (c : Int) := by omega
      clear hkp hsm hq1
      go_upto_region 0 with fail
      clear k1 k2 k3 k4
      go_region_held3 (fun w' => w'.cell? ⟨cb, 0, none⟩ = some (.slice (some ⟨g, 0, none⟩) n n) ∧ w'.cell? ⟨g, t, none⟩ = some (.slice (some ⟨k, o, none⟩) p c) ∧ w'.cell? ⟨qb, 0, none⟩ = some (.pointer (some ⟨bq, 0, none⟩)) ∧ w'.cell? ⟨k, o, none⟩ = some (.string x)) (first | exact HKP.out _ HKS.out | exact HKR.out) ((go_at_call 7; (with_reducible refine HPU.out.mono ?_); rintro e w2 ⟨rfl, G2, hT2, hf2, hk2⟩; have HKS := Lib.hid hk2))
      by_cases hz0 : (queuePush q1 (t : Int) x).1 = 0
      · have v1 : ((queuePush q1 (t : Int) x).1 == 0) = true := by simpa using hz0
        have hs2 : shiftQ l (queuePush q1 (t : Int) x).2 t = shiftQ l0 q t := by
          rw [← HS.out.same, shiftQ, if_pos hz0]
        have hN : QsSt w bq qb cb t q C l0 g G K (x :: l) vs1 q1 G1 wr.drew := HS.out.still (Keeps.refl _ wr).drew
        have hq2 := (hN.qc.queued hT2 hf2 hk2).keep ((Keeps.refl (fun _ => False) w2).drew) (fun _ _ e => e)
        obtain ⟨k', o', e1, y1, y2, f2, hpop⟩ := hq2.popped HV.out.1 HV.out.2.1 HQ1.out
        simp only [Option.some.injEq, Addr.mk.injEq, and_true] at e1
        obtain ⟨rfl, rfl⟩ := e1
        have hpp := hpop _ rfl
        rw [List.set_set] at hpp
        have y3 : w2.cell? ⟨cb, 0, none⟩ = some (.slice (some ⟨g, 0, none⟩) n n) := (HKP.out _ HKS.out).1
        have hK3 : Keeps (fun i => i = g) w2.drew (w2.drew.setCell ⟨g, t, none⟩ (.slice (some ⟨k, if c = 1 then o else o + 1, none⟩) (p - 1) (c - 1))) := (Keeps.refl (fun i => i = g) w2.drew).setCell (p := ⟨g, t, none⟩) (fun _ => rfl) _
        have hwl := queuePush_wait q1 (t : Int) x
        have HN3 := Lib.hid (show QsSt w bq qb cb t q C l0 g G K l (vs1.set t (.slice (some ⟨k, if c = 1 then o else o + 1, none⟩) (p - 1) (c - 1))) (queuePush q1 (t : Int) x).2 G2 (w2.drew.setCell ⟨g, t, none⟩ (.slice (some ⟨k, if c = 1 then o else o + 1, none⟩) (p - 1) (c - 1))) from by
          have hz := hN.keep.size
          refine ⟨hpp, hs2, fun i hi => ?_, ((hN.keep.trans hk2 fun i hi e => ?_).drew).trans hK3 fun i _ e => .inr (by rw [e]; exact HS.out.qc.come.fg), ?_⟩
          · rcases hf2 i hi with e | e
            · exact hN.far i e
            · exact .inr (Nat.le_trans hz e)
          · rcases hN.far i e with e1 | e1
            · exact .inl e1
            · omega
          · have hsm := HS.out.small
            rw [List.length_cons] at hsm
            rcases hwl.2 with e | ⟨_, e⟩
            · rw [e]; omega
            · rw [e, List.length_append]; simp; omega)
        have HM0 := Lib.hid (show p - 1 = l.length from by have := HQ1.out; omega)
        have hold : wr.cell? ⟨g, t, none⟩ = some (.slice (some ⟨k, o, none⟩) p c) := by rw [Joins.cell_of_block HS.out.qc.come.row t]; simpa using HV.out.1
        have hend := HN3.out.qc.come.row
        have hcg : (w2.drew.setCell ⟨g, t, none⟩ (.slice (some ⟨k, if c = 1 then o else o + 1, none⟩) (p - 1) (c - 1))).cell? ⟨g, t, none⟩ = some (.slice (some ⟨k, if c = 1 then o else o + 1, none⟩) (p - 1) (c - 1)) := by
          rw [Joins.cell_of_block hend t]
          have := (List.getElem?_eq_some_iff.1 HV.out.1).1
          simp [this]
        have HM := Lib.hid (show (match (w2.drew.setCell ⟨g, t, none⟩ (.slice (some ⟨k, if c = 1 then o else o + 1, none⟩) (p - 1) (c - 1))).cell? ⟨g, t, none⟩ with | some (.slice _ n _) => n | _ => 0) < (match wr.cell? ⟨g, t, none⟩ with | some (.slice _ n _) => n | _ => 0) from by
          rw [hold, hcg]; show p - 1 < p; omega)
        clear hs2 hN hq2 hpop hpp hK3 hwl hT2 hf2 hk2 hz0 hold hend hcg
        rw [v1]
        by_cases hc1 : c = 1
        · subst hc1
          obtain rfl : p = 1 := by omega
          rw [if_pos rfl] at HN3 HM
          go_upto_region 1 with fail
          go_region
          go_wp2_with fail
          exact ⟨⟨l, _, _, G2, HN3.out⟩, HM.out⟩
        · rw [if_neg hc1] at HN3 HM
          go_upto_region 1 with fail
          go_region
          go_wp2_with fail
          exact ⟨⟨l, _, _, G2, HN3.out⟩, HM.out⟩
      · have v1 : ((queuePush q1 (t : Int) x).1 == 0) = false := by simpa using hz0
        have HE : Aside (shiftQ l0 q t = (x :: l, q1)) := by
          show _ = _
          rw [← HS.out.same, shiftQ, if_neg hz0]
        rw [queuePush_no hz0] at hT2
        have hN : QsSt w bq qb cb t q C l0 g G K (x :: l) vs1 q1 G1 wr.drew := HS.out.still (Keeps.refl _ wr).drew
        have HN := Lib.hid (show QsSt w bq qb cb t q C l0 g G K (x :: l) vs1 q1 G2 w2 from ⟨hN.qc.queued hT2 hf2 hk2, hN.same, fun i hi => by
          have hz := hN.keep.size
          rcases hf2 i hi with e | e
          · exact hN.far i e
          · exact .inr (Nat.le_trans hz e), hN.keep.trans hk2 fun i hi e => by
          rcases hN.far i e with e1 | e1
          · exact .inl e1
          · omega, hN.small⟩)
        clear hz0 hT2 hf2 hk2 hN
        rw [v1]
        go_wp2_with fail
        go_end0
        refine ⟨rfl, vs1, G2, ?_⟩
        rw [HE.out]
        exact HN.out
end Go.Proofs.YtabhpbkkjijfjaaGreatDoor
