/-
  house's Feed, of a tenant.
-/
import Derived.Test.YtabhpbkkjijfjaaGreatDoorZHouseLogsHouseShift
import Derived.Test.YtabhpbkkjijfjaaGreatDoorZHouseLogsCuts
namespace Go.Proofs.YtabhpbkkjijfjaaGreatDoor
set_option maxRecDepth 100000
open Go.RowKit

/-- Behind Feed. -/
structure FedSt (w : World) (pb hb tb : Nat) (p : PortS) (st : TurnSt) (o0 ov : Value) (Fp Ft : Nat → Prop) (cv' : Value) (Fp' Ft' : Nat → Prop) (W : World) : Prop where
  port : PortAt pb hb p cv' o0 ov W Fp'
  turns : IsTurns tb st W Ft'
  farp : ∀ i, Fp' i → Fp i ∨ w.heap.size ≤ i
  fart : ∀ i, Ft' i → Ft i ∨ w.heap.size ≤ i
  keep : Keeps (fun i => Fp i ∨ Ft i) w W
  apart : ∀ i, Ft' i → ¬ Fp' i
theorem PortAt.kept_set {pb hb : Nat} {p : PortS} {cv o0 ov : Value} {w : World} {F : Nat → Prop} (h : PortAt pb hb p cv o0 ov w F) (s : ByteArray) : PortAt pb hb { p with kept := s } cv o0 ov (w.setCell ⟨pb, 1, none⟩ (.string s)) F := by
  have hne := h.come.ne_type h.out.blk (by decide)
  refine ⟨⟨Joins.block_setCell h.out.blk _, h.out.c0, h.out.c1, ?_, h.out.ty, h.out.nil⟩, h.come.keep fun g hg => Below.heap_setCell _ _ _ _ (fun e => hne (by rw [hg]; exact congrArg some e)), h.fp, h.fc, h.fo, fun i hi => by simpa [World.setCell] using h.lt i hi⟩
  exact h.out.own.kept (row := some pb) ⟨rfl, rfl, rfl, by simp [World.setCell], fun k _ hk => Below.heap_setCell _ _ _ _ (fun e => hk (by simp [e]))⟩ (.inr h.out.ne)
theorem PortAt.laid2 {pb hb : Nat} {p : PortS} {cv o0 ov : Value} {w : World} {F F' : Nat → Prop} (h : PortAt pb hb p cv o0 ov w F) {u : Value} {l : List ByteArray} {w' : World} (hrow : Row w' 9 1 u l.length (l.map strV)) (hu : ∀ g, u.ownBlock = some g → F' g) (hF : ∀ i, F i → F' i) (hw : w'.heap[pb]? = some (.cells (portArr hb p.kept u o0 ov) 66 (0, 0))) (ho : ∀ g, ov.ownBlock = some g → w'.heap[g]? = w.heap[g]?) (hlt : ∀ i, F' i → i < w'.heap.size) : PortAt pb hb { p with come := l } u o0 ov w' F' := by
  refine ⟨⟨hw, h.out.c0, h.out.c1, ?_, h.out.ty, h.out.nil⟩, hrow, hF _ h.fp, hu, fun g hg => hF _ (h.fo g hg), hlt⟩
  obtain ⟨h1, h2⟩ := h.out.own
  refine ⟨h1, ?_⟩
  rcases h2 with ⟨e1, e2⟩ | ⟨g, cap, cur, e, hg, hc, h3⟩
  · exact .inl ⟨e1, e2⟩
  · exact .inr ⟨g, cap, cur, e, hg, (ho g (by rw [e]; rfl)).trans hc, h3⟩
theorem encS_map (ts : List (List UInt8)) : encS ts = (ts.map txt).map strV := by
  unfold encS
  first | rfl | simp [strV]
set_option maxHeartbeats 4000000 in
set_option maxRecDepth 100000 in
theorem feed_by (b n t : Nat) (pb hb tb g o c : Nat) (p : PortS) (st : TurnSt) (arr : Array Value) (cv o0 ov : Value) (K C : List UInt8) (w : World) (Fp Ft Fh : Nat → Prop)
    (hblk : w.heap[b]? = some (.cells arr 55 (0, 0))) (h1 : arr[1]? = some (.slice (some ⟨g, o, none⟩) n c)) (h2 : arr[2]? = some (ptrV tb)) (hpr : w.cell? ⟨g, o + t, none⟩ = some (ptrV pb)) (htn : t < n) (_hn64 : n ≤ 64)
    (hport : PortAt pb hb p cv o0 ov w Fp) (hturns : IsTurns tb st w Ft) (hlt : ∀ i, Ft i → i < w.heap.size) (d1 : Fh b ∧ Fh g) (d2 : ∀ i, Fh i → i < w.heap.size ∧ ¬ Fp i ∧ ¬ Ft i) (d3 : ∀ i, Ft i → ¬ Fp i)
    (hk : p.kept = txt K) (hK : K.length ≤ 6001) (hK10 : 10 ∉ K) (hC : C.length ≤ 8000) (hcl : p.come.length ≤ 1000000000) :
    Calls Tryz.prog 8 #[ptrV b, .int .i64 t, .string (txt C)] w fun e w' => e = .returned (.int .i64 0) ∧ ∃ cv' Fp' Ft', FedSt w pb hb tb ⟨txt (cutR C K).2, (shiftF (p.come ++ (cutR C K).1.map txt) st t).1, p.told⟩ (shiftF (p.come ++ (cutR C K).1.map txt) st t).2 o0 ov Fp Ft cv' Fp' Ft' w' := by
  unfold ptrV at *
  have k1 : w.cell? ⟨b, 1, none⟩ = some (.slice (some ⟨g, o, none⟩) n c) := (Joins.cell_of_block hblk 1).trans h1
  obtain ⟨_, m1, m2, _, _⟩ := hport.cells
  rw [hk] at m1
  have hcs : (txt C).size = C.length := txt_size C
  have HCU := Lib.hid (cut_any K C w (by omega) hK hK10)
  have t1 : decide ((t : Int) < 0) = false := decide_eq_false (by omega)
  have t2 : decide ((t : Int) ≥ (n : Int)) = false := decide_eq_false (by omega)
  have t3 : decide (n ≤ t) = false := decide_eq_false (by omega)
  have t4 : decide ((n : Int) ≤ (t : Int)) = false := decide_eq_false (by omega)
  have t5 : decide (((txt C).size : Int) > 8000) = false := decide_eq_false (by rw [hcs]; omega)
  have t6 : decide (8000 < (txt C).size) = false := decide_eq_false (by rw [hcs]; omega)
  have i1 : (0 : Int) ≤ (t : Int) := by omega
  have i2 : (t : Int) < (n : Int) := by omega
  have HALL := Lib.hid (show w.heap[b]? = some (.cells arr 55 (0, 0)) ∧ PortAt pb hb p cv o0 ov w Fp ∧ IsTurns tb st w Ft ∧ (∀ i, Ft i → i < w.heap.size) ∧ (∀ i, Fh i → i < w.heap.size ∧ ¬ Fp i ∧ ¬ Ft i) ∧ (∀ i, Ft i → ¬ Fp i) from ⟨hblk, hport, hturns, hlt, d2, d3⟩)
  have HA := Lib.hid (show arr[1]? = some (.slice (some ⟨g, o, none⟩) n c) ∧ arr[2]? = some (.pointer (some ⟨tb, 0, none⟩)) ∧ w.cell? ⟨g, o + t, none⟩ = some (.pointer (some ⟨pb, 0, none⟩)) from ⟨h1, h2, hpr⟩)
  clear hblk h1 h2 hport hturns hlt d2 d3 hk hcs
  go_enter Tryz.func8, Tryz.ntmps8
  go_wp2_with fail
  with_reducible refine HCU.out.mono ?_
  rintro e w1 ⟨v, rfl, hb1, htx⟩
  obtain ⟨la, lc, rfl⟩ := htx.form
  obtain ⟨L, hL⟩ : ∃ L, L = (cutR C K).1 := ⟨_, rfl⟩
  obtain ⟨K2, hK2⟩ : ∃ K2, K2 = (cutR C K).2 := ⟨_, rfl⟩
  have hLc : L.length ≤ 8000 := by rw [hL]; exact Nat.le_trans (cutR_count C K) hC
  rw [← hL] at htx ⊢
  rw [← hK2]
  obtain ⟨ln, hln⟩ : ∃ ln, ln = L.length := ⟨_, rfl⟩
  have kB : Keeps (fun _ => False) w w1 := Keeps.of_below hb1
  have hp1 : PortAt pb hb p cv o0 ov w1 Fp := HALL.out.2.1.keep kB (fun _ _ e => e)
  have hp2 := hp1.kept_set (txt K2)
  have f1 : w1.frozen? ⟨pb, 1, none⟩ = false := Joins.unfrozen_of_block hp1.out.blk 1
  have y1 : w1.cell? ⟨pb, 1, none⟩ = some (.string p.kept) := hp1.cells.2.1
  have y2 : (w1.setCell ⟨pb, 1, none⟩ (.string (txt K2))).cell? ⟨pb, 2, none⟩ = some cv := hp2.cells.2.2.1
  have f2 : (w1.setCell ⟨pb, 1, none⟩ (.string (txt K2))).frozen? ⟨pb, 2, none⟩ = false := Joins.unfrozen_of_block hp2.out.blk 2
  obtain ⟨ca, cc, hcv, hqc, hcm, _⟩ := hp2.come.form
  obtain ⟨q, hq⟩ : ∃ q, q = p.come.length := ⟨_, rfl⟩
  have hq2 : ({ p with kept := txt K2 } : PortS).come.length = q := hq.symm
  rw [hq2] at hcv hqc
  subst hcv
  obtain ⟨i0, hi, hz0, hz1, hz2⟩ := info_parts infoStr
  have hpbl : pb < w1.heap.size := hp1.lt pb hp1.fp
  have hsrc : Src (w1.setCell ⟨pb, 1, none⟩ (.string (txt K2))) 1 la ln (encS L) := by
    rw [hln]
    have h0 : TextsOf w.heap.size w1 (.slice la L.length lc) L := htx
    have h1 : w1.ownsRow w.heap.size 9 1 (.slice la L.length lc) L.length (encS L) := h0
    have h2 : (w1.setCell ⟨pb, 1, none⟩ (.string (txt K2))).ownsRow w.heap.size 9 1 (.slice la L.length lc) L.length (encS L) := h1.kept (row := some pb) ⟨rfl, rfl, rfl, by simp [World.setCell], fun k _ hk => Below.heap_setCell _ _ _ _ (fun e => hk (by simp [e]))⟩ (.inr fun e => by
      have := (h1.lt pb e).1
      have := HALL.out.2.1.lt pb HALL.out.2.1.fp
      omega)
    exact Src.of_sl (TextsOf.sl (base := w.heap.size) h2 (by omega))
  rw [← hln]
  have HSRC := Lib.hid hsrc
  have HP2 := Lib.hid hp2
  have HROW := Lib.hid hp2.come
  rw [hq2] at HROW
  have HNE := Lib.hid (show some pb ≠ (Value.slice ca q cc).ownBlock from fun e => hp2.come.ne_type hp2.out.blk (by decide) e.symm)
  have HPL := Lib.hid (show pb < (w1.setCell ⟨pb, 1, none⟩ (.string (txt K2))).heap.size from by simpa [World.setCell] using hpbl)
  have HL := Lib.hid hL
  have HK2 := Lib.hid hK2
  have HLN := Lib.hid hln
  have HQ := Lib.hid hq
  have HKB := Lib.hid kB
  have HONE := Lib.hid (show ∀ u ∈ encS L, u.oneCell' = true from fun u hu => by
    rw [encS_map] at hu
    obtain ⟨x, _, rfl⟩ := List.mem_map.1 hu
    rfl)
  have hqs : q ≤ 1000000000 := by omega
  have hlns : ln ≤ 8000 := by omega
  have HB1 := Lib.hid hb1
  clear hL hK2 hln kB hp1 hp2 hq hsrc htx hb1 hq2 hcl k1 m1 m2 t1 t2 t3 t4 t5 t6 i1 i2
  go_upto_region 9 with fail
  go_upto_region 10 with fail
  go_wp2_with ((at_builtin; refine wpList_append_any _ rfl _ _ 34 rfl 9 i0 _ 1 16 Tryz.underlying34 hi hz0 hz1 hz2 rfl (by omega) (.slice ca q cc) q _ rfl HROW.out la ln lc (encS L) rfl HSRC.out HONE.out (by unfold maxLen; omega) (by omega) _ rfl ?_; intro v1 w3 hrow hg hat; obtain ⟨va, vc, rfl, -, -, -⟩ := hrow.form; have z1 := (hg.cell_far ⟨pb, 2, none⟩ HPL.out HNE.out).trans y2; have z2 := (hg.frozen_far ⟨pb, 2, none⟩ HPL.out HNE.out).trans f2; have HROW3 := Lib.hid hrow; have HG3 := Lib.hid hg; have HAT3 := Lib.hid hat; clear hrow hg hat))
  obtain ⟨W4, hW4⟩ : ∃ W, W = w3.setCell ⟨pb, 2, none⟩ (.slice va (q + ln) vc) := ⟨_, rfl⟩
  obtain ⟨W2, hW2⟩ : ∃ W, W = w1.setCell ⟨pb, 1, none⟩ (.string (txt K2)) := ⟨_, rfl⟩
  obtain ⟨hbk, hport, hturns, hlt, d2, d3⟩ := HALL.out
  obtain ⟨a1, a2, hpr0⟩ := HA.out
  have hp2 := HP2.out
  have hg3 := HG3.out
  have hrow3 := HROW3.out
  have hat3 := HAT3.out
  rw [← hW2] at hp2 hg3 hat3
  have hz1 : w.heap.size ≤ w1.heap.size := HB1.out.size
  have hz2 : W2.heap.size = w1.heap.size := by rw [hW2]; simp [World.setCell]
  have hz3 : w1.heap.size ≤ w3.heap.size := by have := hg3.size; omega
  have hz4 : W4.heap.size = w3.heap.size := by rw [hW4]; simp [World.setCell]
  have hown3 : (Value.slice va (q + ln) vc).ownBlock ≠ some pb := hrow3.ne_type ((hg3.block pb (by rw [hz2]; exact hpbl) HNE.out).trans hp2.out.blk) (by decide)
  have hnew : ∀ i, (Value.slice va (q + ln) vc).ownBlock = some i → Fp i ∨ w.heap.size ≤ i := fun i hi => by
    rcases hat3 with e | e
    · exact .inl (hp2.fc i (by rw [← e]; exact hi))
    · rw [hi] at e; cases e
      right; omega
  have K4 : Keeps Fp w W4 := by
    rw [hW4]
    refine Keeps.setCell (p := ⟨pb, 2, none⟩) (Keeps.grown (w := W2) ?_ hg3 fun i e _ => hp2.fc i e) (fun _ => hp2.fp) _
    rw [hW2]
    exact (HKB.out.mono fun _ _ e => e.elim).setCell (p := ⟨pb, 1, none⟩) (fun _ => hp2.fp) _
  obtain ⟨Fp2, hFp2⟩ : ∃ G : Nat → Prop, G = fun i => Fp i ∨ (Value.slice va (q + ln) vc).ownBlock = some i := ⟨_, rfl⟩
  have hblk3 : w3.heap[pb]? = some (.cells (portArr hb (txt K2) (.slice ca q cc) o0 ov) 66 (0, 0)) := (hg3.block pb (by rw [hz2]; exact hpbl) HNE.out).trans hp2.out.blk
  have hp4 : PortAt pb hb ⟨txt K2, p.come ++ L.map txt, p.told⟩ (.slice va (q + ln) vc) o0 ov W4 Fp2 := by
    have hle : (p.come ++ L.map txt).length = q + ln := by rw [List.length_append, List.length_map, HQ.out, HLN.out]
    refine hp2.laid2 (l := p.come ++ L.map txt) ?_ (fun g hg => by rw [hFp2]; exact .inr hg) (fun i hi => by rw [hFp2]; exact .inl hi) ?_ (fun g hg => ?_) (fun i hi => ?_)
    · rw [hle, List.map_append, ← encS_map, hW4]
      exact hrow3.keep fun i hi => Below.heap_setCell _ _ _ _ (fun e => hown3 (by rw [hi]; exact congrArg some e))
    · rw [hW4]; exact Joins.block_setCell hblk3 _
    · rw [hW4, Below.heap_setCell _ _ _ _ (fun e => hp2.out.ne (by rw [hg]; exact congrArg some e))]
      exact hg3.block g (hp2.lt g (hp2.fo g hg)) fun e => by
        have h1 := hp2.come.typed g e.symm
        obtain ⟨cur, h1⟩ := h1
        have h2 := Lib.ownBlock_ne hp2.out.own h1 (by decide)
        exact h2 hg
    · rw [hFp2] at hi
      rcases hi with e | e
      · have := hport.lt i e; omega
      · have := hrow3.lt i e; omega
  have hFh : ∀ i, Fh i → i < W4.heap.size ∧ ¬ Fp2 i ∧ ¬ Ft i := fun i hi => by
    obtain ⟨q1, q2, q3⟩ := d2 i hi
    refine ⟨by omega, fun e => ?_, q3⟩
    rw [hFp2] at e
    rcases e with e | e
    · exact q2 e
    · rcases hnew i e with e1 | e1
      · exact q2 e1
      · omega
  have hFt : ∀ i, Ft i → ¬ Fp2 i := fun i hi e => by
    rw [hFp2] at e
    rcases e with e | e
    · exact d3 i hi e
    · have h1 := hlt i hi
      rcases hnew i e with e1 | e1
      · exact d3 i hi e1
      · omega
  have hsh := shift_by b n t pb hb tb g o c ⟨txt K2, p.come ++ L.map txt, p.told⟩ st arr (.slice va (q + ln) vc) o0 ov W4 Fp2 Ft Fh ((K4.block b (d2 b d1.1).1 (d2 b d1.1).2.1).trans hbk) a1 a2 ((K4.cell (p := ⟨g, o + t, none⟩) (d2 g d1.2).1 (d2 g d1.2).2.1).trans hpr0) htn hp4 (hturns.keep K4 fun i hi e => d3 i hi e) (fun i hi => by have := hlt i hi; omega) d1 hFh hFt
  unfold ptrV at hsh
  have HSH := Lib.hid hsh
  have HFIN := Lib.hid (show w.heap.size ≤ W4.heap.size ∧ Keeps Fp w W4 ∧ (∀ i, Fp2 i → Fp i ∨ w.heap.size ≤ i) ∧ Fp pb from ⟨by omega, K4, fun i hi => by
    rw [hFp2] at hi
    rcases hi with e | e
    · exact .inl e
    · exact hnew i e, hport.fp⟩)
  rw [← hW4]
  clear hsh hW4 hW2 hbk hport hturns hlt d2 d3 a1 a2 hpr0 hp2 hg3 hrow3 hat3 hz1 hz2 hz3 hz4 hown3 hnew K4 hFp2 hblk3 hp4 hFh hFt y1 y2 f1 f2 z1 z2
  with_reducible refine HSH.out.mono ?_
  rintro e w5 ⟨rfl, cv5, Ft5, hst⟩
  have HST := Lib.hid hst
  clear hst
  go_wp2_with fail
  go_ret
  have hst := HST.out
  rw [← HK2.out]
  try rw [← HL.out]
  refine ⟨rfl, cv5, Fp2, Ft5, hst.port, hst.turns, HFIN.out.2.2.1, fun i hi => ?_, (HFIN.out.2.1.mono fun i _ e => .inl e).trans hst.keep (fun i hi e => ?_), hst.apart⟩
  · rcases hst.far i hi with e | e
    · exact .inl e
    · exact .inr (Nat.le_trans HFIN.out.1 e)
  · rcases e with e | e
    · rw [e]; exact .inl HFIN.out.2.2.2
    · exact .inr e
end Go.Proofs.YtabhpbkkjijfjaaGreatDoor
