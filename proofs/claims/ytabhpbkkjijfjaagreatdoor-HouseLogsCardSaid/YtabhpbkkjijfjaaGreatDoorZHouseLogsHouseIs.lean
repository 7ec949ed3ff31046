/-
  A house as one object: Feed, Turn, Tick, Log.
-/
import Derived.Test.YtabhpbkkjijfjaaGreatDoorZHouseLogs12
import Derived.Test.YtabhpbkkjijfjaaGreatDoorZHouseLogs37
import Derived.Test.YtabhpbkkjijfjaaGreatDoorZHouseLogsHouseTurn
namespace Go.Proofs.YtabhpbkkjijfjaaGreatDoor
set_option maxRecDepth 100000
open Go.RowKit

def IsHouse (b : Nat) (H : HouseS) (w : World) (F : Nat → Prop) : Prop :=
  ∃ ab tb pbs hbs pv l0 lv Fh Ft Fp, HouseAt b ab tb pbs hbs H pv l0 lv w Fh Ft Fp ∧ ∀ j, F j ↔ (Fh j ∨ Ft j ∨ ∃ s, Fp s j)
section
variable {b : Nat} {H : HouseS} {w w' : World} {F G : Nat → Prop}
theorem IsHouse.keep (h : IsHouse b H w F) (k : Keeps G w w') (hd : ∀ i, F i → ¬ G i) : IsHouse b H w' F := by
  obtain ⟨ab, tb, pbs, hbs, pv, l0, lv, Fh, Ft, Fp, h, hF⟩ := h
  exact ⟨ab, tb, pbs, hbs, pv, l0, lv, Fh, Ft, Fp, h.keep k (fun i hi => hd i ((hF i).2 (.inl hi))) (fun i hi => hd i ((hF i).2 (.inr (.inl hi)))) (fun t i hi => hd i ((hF i).2 (.inr (.inr ⟨t, hi⟩)))), hF⟩
theorem IsHouse.lt (h : IsHouse b H w F) : ∀ i, F i → i < w.heap.size := by
  obtain ⟨ab, tb, pbs, hbs, pv, l0, lv, Fh, Ft, Fp, h, hF⟩ := h
  intro i hi
  rcases (hF i).1 hi with e | e | ⟨t, e⟩
  · exact h.lth i e
  · exact h.ltt i e
  · exact h.ltp t i e
end
def sayT : List UInt8 := [110, 111, 32, 52]
def questT : ByteArray := txt [63]
theorem house_feed {b : Nat} {H : HouseS} {w : World} {F : Nat → Prop} (h : IsHouse b H w F) {t : Nat} {p : PortS} (hp : H.ports[t]? = some p) (hk : p.kept = txt []) (hcl : p.come.length ≤ 1000000000) :
    Calls Tryz.prog 8 #[ptrV b, .int .i64 t, .string (txt [63, 10])] w (Mut w F (IsHouse b ⟨H.ports.set t ⟨txt [], (shiftF (p.come ++ [questT]) H.turns t).1, p.told⟩, (shiftF (p.come ++ [questT]) H.turns t).2, H.log, H.clock⟩) (.int .i64 0)) := by
  obtain ⟨ab, tb, pbs, hbs, pv, l0, lv, Fh, Ft, Fp, h, hF⟩ := h
  have ht := (List.getElem?_eq_some_iff.1 hp).1
  obtain ⟨p', pb, hb, g, o, c, cv, o0, ov, h1, h2, h3, h4, hT⟩ := h.ten ht
  rw [hp] at h1
  cases h1
  have hn64 : H.ports.length ≤ 64 := by
    obtain ⟨_, _, hq⟩ := h.turns
    have h1 := hq.small
    have h2 := h.nt
    omega
  have hf := feed_by b H.ports.length t pb hb tb g o c p H.turns _ cv o0 ov [] [63, 10] w (Fp t) Ft Fh hT.blk hT.a1 hT.a2 hT.pr hT.tn hn64 hT.port hT.turns hT.lt hT.d1 hT.d2 hT.d3 hk (by simp) (by simp) (by simp) hcl
  have ec : cutR [63, 10] [] = ([[63]], []) := by decide
  rw [ec] at hf
  refine hf.mono ?_
  rintro e w' ⟨rfl, cv', Fp', Ft', hs⟩
  have hn := h.next ht h2 h3 hs (by rw [shiftF_n]; exact h.nt)
  refine ⟨rfl, _, ⟨ab, tb, pbs, hbs, pv, l0, lv, Fh, Ft', _, hn, fun j => Iff.rfl⟩, fun j hj => ?_, hs.keep.mono fun j _ e => ?_⟩
  · rcases hj with e | e | ⟨s, e⟩
    · exact .inl ((hF j).2 (.inl e))
    · exact (hs.fart j e).imp (fun e => (hF j).2 (.inr (.inl e))) id
    · by_cases es : s = t
      · rw [if_pos es] at e
        exact (hs.farp j e).imp (fun e => (hF j).2 (.inr (.inr ⟨t, e⟩))) id
      · rw [if_neg es] at e
        exact .inl ((hF j).2 (.inr (.inr ⟨s, e⟩)))
  · rcases e with e | e
    · exact (hF j).2 (.inr (.inr ⟨t, e⟩))
    · exact (hF j).2 (.inr (.inl e))
theorem house_idle {b : Nat} {H : HouseS} {w : World} {F : Nat → Prop} (h : IsHouse b H w F) {r : Int} {line : ByteArray} {st' : TurnSt} (hp : turnPop H.turns = ((r, line, false), st')) (hn : st'.n = H.ports.length) :
    Calls Tryz.prog 10 #[ptrV b] w (Mut w F (IsHouse b ⟨H.ports, st', H.log, H.clock⟩) (.bool false)) := by
  obtain ⟨ab, tb, pbs, hbs, pv, l0, lv, Fh, Ft, Fp, h, hF⟩ := h
  refine (turn_none h hp).mono ?_
  rintro e w' ⟨rfl, Ft', h1, h2, h3⟩
  refine ⟨rfl, _, ⟨ab, tb, pbs, hbs, pv, l0, lv, Fh, Ft', Fp, h.turned h1 h2 h3 hn, fun j => Iff.rfl⟩, fun j hj => ?_, h3.mono fun j _ e => (hF j).2 (.inr (.inl e))⟩
  rcases hj with e | e | ⟨s, e⟩
  · exact .inl ((hF j).2 (.inl e))
  · exact (h2 j e).imp (fun e => (hF j).2 (.inr (.inl e))) id
  · exact .inl ((hF j).2 (.inr (.inr ⟨s, e⟩)))
/-- What stands apart from a house stays. -/
def RestOf (B0 : Nat) (w : World) (K : Nat → Prop) (G : Nat → Prop) (W : World) : Prop := (∀ j, K j → G j) ∧ Below B0 w W ∧ ∀ j, K j → W.heap[j]? = w.heap[j]?
theorem house_turn {b B0 : Nat} {H : HouseS} {w : World} {F : Nat → Prop} (h : IsHouse b H w F) (hT : Tab B0 w) (hB0 : ∀ j, F j → B0 ≤ j) (hB : B0 ≤ w.heap.size) {i : Nat} {st' : TurnSt} {p : PortS} (hp : turnPop H.turns = (((i : Int), questT, true), st')) (hpi : H.ports[i]? = some p) (hn : st'.n = H.ports.length) (htold : p.told.length ≤ 1000000000000) :
    Calls Tryz.prog 10 #[ptrV b] w (Mut w F (IsHouse b ⟨H.ports.set i ⟨p.kept, (shiftF p.come st' i).1, p.told ++ wrapF sayT⟩, (shiftF p.come st' i).2, H.log, H.clock⟩) (.bool true)) := by
  have hlt := h.lt
  obtain ⟨ab, tb, pbs, hbs, pv, l0, lv, Fh, Ft, Fp, h, hF⟩ := h
  have hi := (List.getElem?_eq_some_iff.1 hpi).1
  have hst : Stays (RestOf B0 w (fun j => j < w.heap.size ∧ ¬ F j)) := fun G F' W W' hc hk hd => by
    obtain ⟨c1, c2, c3⟩ := hc
    refine ⟨c1, c2.trans (hk.toBelow (fun j hj => ?_) (Nat.le_trans hB c2.size)), fun j hj => ?_⟩
    · refine Classical.byContradiction fun hlt => ?_
      exact hd j (c1 j ⟨by omega, fun e => by have := hB0 j e; omega⟩) hj
    · exact (hk.block j (Nat.lt_of_lt_of_le hj.1 c2.size) fun e => hd j (c1 j hj) e).trans (c3 j hj)
  have hC : RestOf B0 w (fun j => j < w.heap.size ∧ ¬ F j) (fun j => j < w.heap.size ∧ ¬ F j) w := ⟨fun j e => e, Below.refl _ _, fun _ _ => rfl⟩
  refine (turn_some (Core := RestOf B0 w (fun j => j < w.heap.size ∧ ¬ F j)) (Core2 := RestOf B0 w (fun j => j < w.heap.size ∧ ¬ F j)) (A := sayT) h hp hi hn hst hC (fun j e => e.1) (fun j e => ⟨fun e1 => e.2 ((hF j).2 (.inl e1)), fun e1 => e.2 ((hF j).2 (.inr (.inl e1))), fun s e1 => e.2 ((hF j).2 (.inr (.inr ⟨s, e1⟩)))⟩) (by decide) (fun p' e => by rw [hpi] at e; cases e; exact htold) hst fun W Ft' H' _ hc => ?_).mono ?_
  · have hz := hc.2.1.size
    refine (answer_quest b i W (hT.on hc.2.1) (by omega)).mono ?_
    rintro e w' ⟨rfl, hb⟩
    have hk := Keeps.of_below (F := fun j => j < w.heap.size ∧ ¬ F j) hb
    refine ⟨rfl, hk, _, hst _ (fun _ => False) W w' hc (Keeps.of_below hb) (fun _ _ e => e), fun j e => .inl e, fun j e => ?_⟩
    have := hb.size
    exact Nat.lt_of_lt_of_le e.1 (by omega)
  · rintro e w' ⟨rfl, p', Ft', Fpi, G', q1, q2, q3, q4, q5, q6⟩
    rw [hpi] at q1
    cases q1
    refine ⟨rfl, _, ⟨ab, tb, pbs, hbs, pv, l0, lv, Fh, Ft', _, q2, fun j => Iff.rfl⟩, fun j hj => ?_, ⟨q6.os, q6.tape, q6.output, q6.size, fun j hj hn => q3.2.2 j ⟨hj, hn⟩⟩⟩
    refine Classical.byContradiction fun hc => ?_
    have hG : G' j := q3.1 j ⟨by omega, fun e => hc (.inl e)⟩
    obtain ⟨r1, r2, r3, r4⟩ := q5 j hG
    rcases hj with e | e | ⟨s, e⟩
    · exact r1 e
    · exact r2 e
    · by_cases es : s = i
      · rw [if_pos es] at e; exact r3 e
      · rw [if_neg es] at e; exact r4 s e
theorem house_tick {b B0 : Nat} {H : HouseS} {w : World} {F : Nat → Prop} (h : IsHouse b H w F) (hT : Tab B0 w) (hB0 : ∀ j, F j → B0 ≤ j) (hB : B0 ≤ w.heap.size) {k : Nat} (hk : H.clock = (k : Int)) (hk6 : k ≤ 1000000) (hl : H.log.length ≤ 1000000000) :
    Calls Tryz.prog 11 #[ptrV b] w (Mut w F (IsHouse b ⟨H.ports, H.turns, H.log ++ (Lib.decDigits (k + 1) ++ (waitL H.turns H.ports.length ++ [10])), H.clock + 1⟩) (.tuple #[])) := by
  obtain ⟨ab, tb, pbs, hbs, pv, l0, lv, Fh, Ft, Fp, h, hF⟩ := h
  refine (tick_any h hk hk6 hl hT (fun j e => hB0 j ((hF j).2 (.inl e))) hB).mono ?_
  rintro e w' ⟨rfl, ⟨l0', lv', Fh', h1, h2⟩, h3⟩
  refine ⟨rfl, _, ⟨ab, tb, pbs, hbs, pv, l0', lv', Fh', Ft, Fp, h1, fun j => Iff.rfl⟩, fun j hj => ?_, h3.mono fun j _ e => (hF j).2 (.inl e)⟩
  rcases hj with e | e | ⟨s, e⟩
  · exact (h2 j e).imp (fun e => (hF j).2 (.inl e)) id
  · exact .inl ((hF j).2 (.inr (.inl e)))
  · exact .inl ((hF j).2 (.inr (.inr ⟨s, e⟩)))
set_option maxHeartbeats 4000000 in
set_option maxRecDepth 100000 in
theorem house_log {b : Nat} {H : HouseS} {w : World} {F : Nat → Prop} (h : IsHouse b H w F) :
    Calls Tryz.prog 14 #[ptrV b] w fun e w' => e = .returned (.string (txt H.log)) ∧ Keeps F w w' := by
  obtain ⟨ab, tb, pbs, hbs, pv, l0, lv, Fh, Ft, Fp, h, hF⟩ := h
  have HL := Lib.hid (show Calls Tryz.prog 29 #[.pointer (some ⟨b, 3, none⟩)] w fun e w' => e = .returned (.string (txt H.log)) ∧ Keeps F w w' from (istring_any b 3 _ _ lv H.log w h.log).mono fun e w' q => ⟨q.1, q.2.mono fun j _ e => (hF j).2 (.inl (h.fl j e))⟩)
  unfold ptrV
  clear h hF
  go_enter Tryz.func14, Tryz.ntmps14
  go_wp2_with fail
  with_reducible refine HL.out.mono ?_
  rintro e w' ⟨rfl, hk⟩
  have HK := Lib.hid hk
  clear hk
  go_wp2_with fail
  go_ret
  exact ⟨rfl, HK.out⟩
end Go.Proofs.YtabhpbkkjijfjaaGreatDoor
