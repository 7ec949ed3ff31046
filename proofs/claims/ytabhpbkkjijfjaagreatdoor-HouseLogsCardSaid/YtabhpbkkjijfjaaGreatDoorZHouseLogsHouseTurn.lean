/-
  house's Turn.
-/
import Derived.Test.YtabhpbkkjijfjaaGreatDoorZHouseLogs35
import Derived.Test.YtabhpbkkjijfjaaGreatDoorZHouseLogsFrames
namespace Go.Proofs.YtabhpbkkjijfjaaGreatDoor
set_option maxRecDepth 100000
open Go.RowKit

/-- More was told to a tenant. -/
theorem PortAt.told_more {pb hb : Nat} {p : PortS} {cv o0 ov v' : Value} {w w' : World} {F : Nat → Prop} {l : List UInt8} (h : PortAt pb hb p cv o0 ov w F) (hn : BldAt pb 3 66 (((portArr hb p.kept cv o0 ov).setIfInBounds 3 (.pointer (some ⟨pb, 3, none⟩))).setIfInBounds 4 v') v' (Lib.byteCells p.told ++ Lib.strCells (txt l)) w') (hk : Keeps (fun i => i = pb ∨ ov.ownBlock = some i) w w') (hf : ∀ g, v'.ownBlock = some g → ov.ownBlock = some g ∨ w.heap.size ≤ g) :
    PortAt pb hb { p with told := p.told ++ l } cv (.pointer (some ⟨pb, 3, none⟩)) v' w' (fun i => F i ∨ v'.ownBlock = some i) := by
  have hz := hk.size
  have e : Lib.byteCells p.told ++ Lib.strCells (txt l) = Lib.byteCells (p.told ++ l) := by
    simp [Lib.byteCells, Lib.strCells, txt_data]
  rw [e] at hn
  refine ⟨hn, h.come.keep fun g hg => hk.block g (h.come.lt g hg) fun e => ?_, .inl h.fp, fun g hg => .inl (h.fc g hg), fun g hg => .inr hg, fun i hi => ?_⟩
  · rcases e with e | e
    · exact h.come.ne_type h.out.blk (by decide) (by rw [hg, e])
    · obtain ⟨cur, h1⟩ := h.come.typed g hg
      exact Lib.ownBlock_ne h.out.own h1 (by decide) e
  · rcases hi with hi | hi
    · exact Nat.lt_of_lt_of_le (h.lt i hi) hz
    · have := hn.own.lt i hi; omega
set_option maxHeartbeats 4000000 in
set_option maxRecDepth 100000 in
theorem turn_none {b ab tb : Nat} {pbs hbs : List Nat} {H : HouseS} {pv l0 lv : Value} {w : World} {Fh Ft : Nat → Prop} {Fp : Nat → Nat → Prop} (h : HouseAt b ab tb pbs hbs H pv l0 lv w Fh Ft Fp) {r : Int} {line : ByteArray} {st' : TurnSt} (hp : turnPop H.turns = ((r, line, false), st')) :
    Calls Tryz.prog 10 #[ptrV b] w fun e w' => e = .returned (.bool false) ∧ ∃ Ft', IsTurns tb st' w' Ft' ∧ (∀ i, Ft' i → Ft i ∨ w.heap.size ≤ i) ∧ Keeps Ft w w' := by
  have k2 : w.cell? ⟨b, 2, none⟩ = some (.pointer (some ⟨tb, 0, none⟩)) := Joins.cell_of_block h.log.blk 2
  have hpop := pop_any tb H.turns Ft w h.turns
  rw [hp] at hpop
  have HPOP := Lib.hid hpop
  unfold ptrV
  clear h hpop hp
  go_enter Tryz.func10, Tryz.ntmps10
  go_wp2_with fail
  with_reducible refine HPOP.out.mono ?_
  rintro e w1 ⟨rfl, Ft1, h1, h2, h3⟩
  have HR := Lib.hid (show IsTurns tb st' w1 Ft1 ∧ (∀ i, Ft1 i → Ft i ∨ w.heap.size ≤ i) ∧ Keeps Ft w w1 from ⟨h1, h2, h3⟩)
  clear h1 h2 h3
  go_wp2_with fail
  go_ret
  exact ⟨rfl, Ft1, HR.out⟩
theorem liesPort : liesAt Tryz.prog Tryz.prog.depth 66 (5 / Tryz.prog.cellsOf 66) 3 53 1 = true := by kernel_rfl
/-- What stands apart from a house and is changed by answers: its form, and that it stays where its blocks stay. -/
def Stays (Core : (Nat → Prop) → World → Prop) : Prop := ∀ (G F : Nat → Prop) (W W' : World), Core G W → Keeps F W W' → (∀ j, G j → ¬ F j) → Core G W'
/-- A line was answered. -/
def Turned (b ab tb : Nat) (pbs hbs : List Nat) (H : HouseS) (pv l0 lv : Value) (Fh Ft : Nat → Prop) (Fp : Nat → Nat → Prop) (i : Nat) (A : List UInt8) (st' : TurnSt) (Core2 : (Nat → Prop) → World → Prop) (G : Nat → Prop) (w w' : World) : Prop :=
  ∃ p Ft' Fpi G', H.ports[i]? = some p ∧ HouseAt b ab tb pbs hbs ⟨H.ports.set i ⟨p.kept, (shiftF p.come st' i).1, p.told ++ wrapF A⟩, (shiftF p.come st' i).2, H.log, H.clock⟩ pv l0 lv w' Fh Ft' (fun s => if s = i then Fpi else Fp s) ∧ Core2 G' w' ∧ (∀ j, G' j → G j ∨ w.heap.size ≤ j) ∧ (∀ j, G' j → ¬ Fh j ∧ ¬ Ft' j ∧ ¬ Fpi j ∧ ∀ s, ¬ Fp s j) ∧ Keeps (fun j => G j ∨ Ft j ∨ Fp i j) w w'
set_option maxHeartbeats 4000000 in
set_option maxRecDepth 100000 in
theorem turn_some {b ab tb : Nat} {pbs hbs : List Nat} {H : HouseS} {pv l0 lv : Value} {w : World} {Fh Ft : Nat → Prop} {Fp : Nat → Nat → Prop} (h : HouseAt b ab tb pbs hbs H pv l0 lv w Fh Ft Fp) {i : Nat} {line : ByteArray} {st' : TurnSt} (hp : turnPop H.turns = (((i : Int), line, true), st')) (hi : i < H.ports.length) (hn : st'.n = H.ports.length)
    {Core : (Nat → Prop) → World → Prop} (hcore : Stays Core) {G : Nat → Prop} (hC : Core G w) (hGl : ∀ j, G j → j < w.heap.size) (hGd : ∀ j, G j → ¬ Fh j ∧ ¬ Ft j ∧ ∀ s, ¬ Fp s j) {A : List UInt8} (hA : A.length ≤ 100000) (htold : ∀ p, H.ports[i]? = some p → p.told.length ≤ 1000000000000)
    {Core2 : (Nat → Prop) → World → Prop} (hcore2 : Stays Core2)
    (hans : ∀ (W : World) (Ft' : Nat → Prop) (H' : HouseS), HouseAt b ab tb pbs hbs H' pv l0 lv W Fh Ft' Fp → Core G W → Calls Tryz.prog 25 #[ptrV b, .int .i64 i, .string line] W fun e w' => e = .returned (.string (txt A)) ∧ Keeps G W w' ∧ ∃ G', Core2 G' w' ∧ (∀ j, G' j → G j ∨ W.heap.size ≤ j) ∧ ∀ j, G' j → j < w'.heap.size) :
    Calls Tryz.prog 10 #[ptrV b] w fun e w' => e = .returned (.bool true) ∧ Turned b ab tb pbs hbs H pv l0 lv Fh Ft Fp i A st' Core2 G w w' := by
  have k2 : w.cell? ⟨b, 2, none⟩ = some (.pointer (some ⟨tb, 0, none⟩)) := Joins.cell_of_block h.log.blk 2
  have hpop := pop_any tb H.turns Ft w h.turns
  rw [hp] at hpop
  have HPOP := Lib.hid hpop
  have HH := Lib.hid h
  have HX := Lib.hid (And.intro hcore (And.intro hC (And.intro hGl hGd)))
  have HA := Lib.hid (And.intro hcore2 (And.intro hans (And.intro htold hn)))
  unfold ptrV
  clear h hpop hp hcore hC hGl hGd hcore2 hans htold hn
  go_enter Tryz.func10, Tryz.ntmps10
  go_wp2_with fail
  with_reducible refine HPOP.out.mono ?_
  rintro e w1 ⟨rfl, Ft1, h1, h2, h3⟩
  have hH1 := HH.out.turned h1 h2 h3 HA.out.2.2.2
  have HH1 := Lib.hid hH1
  obtain ⟨p, pb, hb, g, o, c, cv, o0, ov, p1, p2, p3, rfl, hT⟩ := hH1.ten hi
  have HP := Lib.hid (And.intro p1 (And.intro p2 p3))
  have HT := Lib.hid hT
  have HK1 := Lib.hid (And.intro h2 h3)
  have hsh := shift_by b H.ports.length i pb hb tb g o c p st' _ cv o0 ov w1 (Fp i) Ft1 Fh hT.blk hT.a1 hT.a2 hT.pr hT.tn hT.port hT.turns hT.lt hT.d1 hT.d2 hT.d3
  unfold ptrV at hsh
  have HSH := Lib.hid hsh
  clear h1 h2 h3 hH1 p1 p2 p3 hT hsh k2
  go_wp2_with fail
  with_reducible refine HSH.out.mono ?_
  rintro e w2 ⟨rfl, cv2, Ft2, hst⟩
  have hz1 : w.heap.size ≤ w1.heap.size := HK1.out.2.size
  have hz2 : w1.heap.size ≤ w2.heap.size := hst.keep.size
  have hfed : FedSt w1 pb hb tb ⟨p.kept, (shiftF p.come st' i).1, p.told⟩ (shiftF p.come st' i).2 o0 ov (Fp i) Ft1 cv2 (Fp i) Ft2 w2 := ⟨hst.port, hst.turns, fun j hj => .inl hj, hst.far, hst.keep.mono fun j _ e => by
    rcases e with e | e
    · rw [e]; exact .inl HT.out.port.fp
    · exact .inr e, hst.apart⟩
  have hH2 := HH1.out.next hi HP.out.2.1 HP.out.2.2 hfed (by rw [shiftF_n]; exact HA.out.2.2.2)
  have hFe : (fun s => if s = i then Fp i else Fp s) = Fp := by
    funext s
    split
    · next e => rw [e]
    · rfl
  rw [hFe] at hH2
  have hGpb : ∀ j, G j → ¬ (j = pb ∨ Ft1 j) := fun j hj e => by
    rcases e with e | e
    · exact (HX.out.2.2.2 j hj).2.2 i (by rw [e]; exact HT.out.port.fp)
    · rcases HK1.out.1 j e with e1 | e1
      · exact (HX.out.2.2.2 j hj).2.1 e1
      · have := HX.out.2.2.1 j hj; omega
  have hC2 : Core G w2.drew := HX.out.1 G _ _ _ (HX.out.1 G _ _ _ (HX.out.1 G Ft _ _ HX.out.2.1 HK1.out.2 fun j hj => (HX.out.2.2.2 j hj).2.1) hst.keep hGpb) ((Keeps.refl (fun _ => False) w2).drew) (fun _ _ e => e)
  have hGF2 : (∀ j, Fh j → ¬ G j) ∧ (∀ j, Ft2 j → ¬ G j) ∧ (∀ t j, Fp t j → ¬ G j) := ⟨fun j hj e => (HX.out.2.2.2 j e).1 hj, fun j hj e => by
    rcases hst.far j hj with e1 | e1
    · exact hGpb j e (.inr e1)
    · have := HX.out.2.2.1 j e; omega, fun t j hj e => (HX.out.2.2.2 j e).2.2 t hj⟩
  have hans := HA.out.2.1 w2.drew Ft2 _ (hH2.keep ((Keeps.refl (fun _ => False) w2).drew) (fun _ _ e => e) (fun _ _ e => e) (fun _ _ _ e => e)) hC2
  unfold ptrV at hans
  have hcell : ∀ W : World, (∀ j, Fh j → W.heap[j]? = w2.heap[j]?) → W.cell? ⟨b, 1, none⟩ = some (.slice (some ⟨g, o, none⟩) H.ports.length c) ∧ W.cell? ⟨g, o + i, none⟩ = some (.pointer (some ⟨pb, 0, none⟩)) := fun W hW => by
    have hb2 : ∀ j, Fh j → w2.heap[j]? = w1.heap[j]? := fun j hj => hst.keep.block j (HT.out.d2 j hj).1 fun e => by
      rcases e with e | e
      · exact (HT.out.d2 j hj).2.1 (by rw [e]; exact HT.out.port.fp)
      · exact (HT.out.d2 j hj).2.2 e
    have e1 := (hW b HT.out.d1.1).trans (hb2 b HT.out.d1.1)
    have e2 := (hW g HT.out.d1.2).trans (hb2 g HT.out.d1.2)
    exact ⟨(Joins.cell_of_block (e1.trans HT.out.blk) 1).trans HT.out.a1, (World.cell?_of_block (a := ⟨g, o + i, none⟩) e2).trans HT.out.pr⟩
  have HANS := Lib.hid hans
  have HCELL := Lib.hid hcell
  have HG2 := Lib.hid hGF2
  have HH2 := Lib.hid hH2
  have HST := Lib.hid hst
  have HZ := Lib.hid (And.intro hz1 hz2)
  have HS0 := Lib.hid (hcell w2.drew fun _ _ => rfl)
  have i1 : (0 : Int) ≤ (i : Int) := by omega
  have i2 : (i : Int) < (H.ports.length : Int) := by omega
  have c1 := (hcell w2 fun _ _ => rfl).1
  have c2 := (hcell w2 fun _ _ => rfl).2
  clear hz1 hz2 hfed hH2 hFe hGpb hC2 hGF2 hans hcell hst
  go_upto_region 7 with fail
  have hwl : (wrapF A).length ≤ 100000000 := by have := wrapF_length A; omega
  have HBLD := Lib.hid (show ∀ W3 W4 : World, Keeps G w2.drew W3 → Below W3.heap.size W3 W4 → BldAt pb 3 66 (portArr hb p.kept cv2 o0 ov) ov (Lib.byteCells p.told) W4 from fun W3 W4 q1 q2 => by
    have hpp : PortAt pb hb _ cv2 o0 ov w2.drew (Fp i) := HST.out.port.keep ((Keeps.refl (fun _ => False) w2).drew) (fun _ _ e => e)
    exact ((hpp.keep q1 (fun j hj => HG2.out.2.2 i j hj)).keep (Keeps.of_below (F := fun _ => False) q2) (fun _ _ e => e)).out)
  have HNF := Lib.hid (show ∀ j, Fh j → ¬ (j = pb ∨ ov.ownBlock = some j) from fun j hj e => by
    rcases e with e | e
    · exact (HT.out.d2 j hj).2.1 (by rw [e]; exact HT.out.port.fp)
    · exact (HT.out.d2 j hj).2.1 (HT.out.port.fo j e))
  have hsz : (portArr hb p.kept cv2 o0 ov).size = 5 := rfl
  have HWR := Lib.hid (fun W (hb0 : BldAt pb 3 66 (portArr hb p.kept cv2 o0 ov) ov (Lib.byteCells p.told) W) => iwrite_any pb 3 66 (portArr hb p.kept cv2 o0 ov) ov (Lib.byteCells p.told) (txt (wrapF A)) W hb0 (by rw [hsz]; exact liesPort) (by rw [Lib.byteCells_length, txt_size]; have := HA.out.2.2.1 p HP.out.1; omega))
  have HTX := Lib.hid (show (txt (wrapF A)).size = (wrapF A).length from txt_size _)
  clear hwl hsz
  go_region_held3 (fun w' => w'.cell? ⟨b, 1, none⟩ = some (.slice (some ⟨g, o, none⟩) H.ports.length c) ∧ w'.cell? ⟨g, o + i, none⟩ = some (.pointer (some ⟨pb, 0, none⟩))) (first | exact HS3.out | exact HS2.out | exact HS1.out | exact HS0.out) (first | (go_at_call 25; (with_reducible refine HANS.out.mono ?_); rintro e w3 ⟨rfl, hk3, hg3⟩; have HK3 := Lib.hid hk3; have HG3 := Lib.hid hg3; have HB3 := Lib.hid (show ∀ j, Fh j → w3.heap[j]? = w2.heap[j]? from fun j hj => hk3.block j (HH2.out.lth j hj) (HG2.out.1 j hj)); have HS1 := Lib.hid (HCELL.out w3 HB3.out)) | (go_at_call 24; (with_reducible refine (wrap_any A w3 (by omega)).mono ?_); rintro e w4 ⟨rfl, hb4⟩; have HB4 := Lib.hid hb4; have HB4F := Lib.hid (show ∀ j, Fh j → w4.heap[j]? = w2.heap[j]? from fun j hj => (hb4.block j (Nat.lt_of_lt_of_le (HH2.out.lth j hj) HK3.out.size)).trans (HB3.out j hj)); have HS2 := Lib.hid (HCELL.out w4 HB4F.out)) | (go_at_call 23; (with_reducible refine (HWR.out w4 (HBLD.out w3 w4 HK3.out HB4.out)).mono ?_); rintro e w5 ⟨rfl, v5, hv5, hf5, hk5⟩; have HV5 := Lib.hid hv5; have HF5 := Lib.hid hf5; have HK5 := Lib.hid hk5; have HS3 := Lib.hid (HCELL.out w5 fun j hj => (hk5.block j (Nat.lt_of_lt_of_le (HH2.out.lth j hj) (Nat.le_trans HK3.out.size HB4.out.size)) (HNF.out j hj)).trans (HB4F.out j hj))))
  go_wp2_with fail
  go_ret
  refine ⟨rfl, ?_⟩
  obtain ⟨G', gC, gf, gl⟩ := HG3.out
  have hst := HST.out
  have hz2 := HZ.out
  have hz3 : w2.heap.size ≤ w3.heap.size := HK3.out.size
  have hz4 : w3.heap.size ≤ w4.heap.size := HB4.out.size
  have hz5 : w4.heap.size ≤ w5.heap.size := HK5.out.size
  have hT := HT.out
  have hltF : ∀ j, Ft2 j → j < w2.heap.size := by obtain ⟨_, _, hq⟩ := hst.turns; exact hq.lt
  have kF : Keeps (fun _ => False) w3 w4 := Keeps.of_below HB4.out
  have hH4 := ((HH2.out.keep ((Keeps.refl (fun _ => False) w2).drew) (fun _ _ e => e) (fun _ _ e => e) (fun _ _ _ e => e)).keep HK3.out HG2.out.1 HG2.out.2.1 HG2.out.2.2).keep kF (fun _ _ e => e) (fun _ _ e => e) (fun _ _ _ e => e)
  have hp4 : PortAt pb hb ⟨p.kept, (shiftF p.come st' i).1, p.told⟩ cv2 o0 ov w4 (Fp i) := ((hst.port.keep ((Keeps.refl (fun _ => False) w2).drew) (fun _ _ e => e)).keep HK3.out (fun j hj => HG2.out.2.2 i j hj)).keep kF (fun _ _ e => e)
  have hp5 := hp4.told_more HV5.out HK5.out HF5.out
  have hfo : ∀ j, (j = pb ∨ ov.ownBlock = some j) → Fp i j := fun j e => by
    rcases e with e | e
    · rw [e]; exact hT.port.fp
    · exact hT.port.fo j e
  have hv5 : ∀ j, v5.ownBlock = some j → Fp i j ∨ w4.heap.size ≤ j := fun j e => (HF5.out j e).imp (fun e => hT.port.fo j e) id
  have ht4 : IsTurns tb (shiftF p.come st' i).2 w4 Ft2 := hH4.turns
  have hfed : FedSt w4 pb hb tb ⟨p.kept, (shiftF p.come st' i).1, p.told ++ wrapF A⟩ (shiftF p.come st' i).2 (.pointer (some ⟨pb, 3, none⟩)) v5 (Fp i) Ft2 cv2 (fun j => Fp i j ∨ v5.ownBlock = some j) Ft2 w5 := ⟨hp5, ht4.keep HK5.out (fun j hj e => hst.apart j hj (hfo j e)), fun j hj => hj.elim .inl (hv5 j), fun j hj => .inl hj, HK5.out.mono fun j _ e => .inl (hfo j e), fun j hj e => by
    rcases e with e | e
    · exact hst.apart j hj e
    · rcases hv5 j e with e1 | e1
      · exact hst.apart j hj e1
      · have := hltF j hj; omega⟩
  have hH5 := hH4.next (t := i) (by rw [List.length_set]; exact hi) HP.out.2.1 HP.out.2.2 hfed (by rw [shiftF_n, List.length_set]; exact HA.out.2.2.2)
  rw [List.set_set] at hH5
  have hpd : ∀ j, G' j → ¬ (j = pb ∨ ov.ownBlock = some j) := fun j hj e => by
    rcases gf j hj with e1 | e1
    · exact (HX.out.2.2.2 j e1).2.2 i (hfo j e)
    · have := hst.port.lt j (hfo j e); have e2 : w2.heap.size ≤ j := e1; omega
  refine ⟨p, Ft2, _, G', HP.out.1, hH5, HA.out.1 G' _ _ _ (HA.out.1 G' _ _ _ gC kF fun _ _ e => e) HK5.out hpd, fun j hj => ?_, fun j hj => ⟨fun e => ?_, fun e => ?_, fun e => ?_, fun s e => ?_⟩, ?_⟩
  · rcases gf j hj with e1 | e1
    · exact .inl e1
    · have e2 : w2.heap.size ≤ j := e1
      exact .inr (by omega)
  · rcases gf j hj with e1 | e1
    · exact HG2.out.1 j e e1
    · have e2 : w2.heap.size ≤ j := e1
      have := HH2.out.lth j e; omega
  · rcases gf j hj with e1 | e1
    · exact HG2.out.2.1 j e e1
    · have e2 : w2.heap.size ≤ j := e1
      have := hltF j e; omega
  · rcases e with e | e
    · rcases gf j hj with e1 | e1
      · exact HG2.out.2.2 i j e e1
      · have e2 : w2.heap.size ≤ j := e1
        have := hst.port.lt j e; omega
    · rcases hv5 j e with e3 | e3
      · rcases gf j hj with e1 | e1
        · exact HG2.out.2.2 i j e3 e1
        · have e2 : w2.heap.size ≤ j := e1
          have := hst.port.lt j e3; omega
      · have := gl j hj; omega
  · rcases gf j hj with e1 | e1
    · exact HG2.out.2.2 s j e e1
    · have e2 : w2.heap.size ≤ j := e1
      have := HH2.out.ltp s j e; omega
  · have q1 : Keeps (fun j => G j ∨ Ft j ∨ Fp i j) w w2 := (HK1.out.2.mono fun j _ e => .inr (.inl e)).trans hst.keep fun j hj e => by
      rcases e with e | e
      · exact .inr (.inr (hfo j (.inl e)))
      · rcases HK1.out.1 j e with e1 | e1
        · exact .inr (.inl e1)
        · omega
    exact (((q1.drew).trans HK3.out fun j _ e => .inl e).trans kF fun _ _ e => e.elim).trans HK5.out fun j _ e => .inr (.inr (hfo j e))
end Go.Proofs.YtabhpbkkjijfjaaGreatDoor
