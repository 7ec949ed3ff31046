/-
  A whole house: its tenants one by one; A house's log: what is written behind it.
-/
import Derived.Test.YtabhpbkkjijfjaaGreatDoorZHouseLogsHouseFeed
namespace Go.Proofs.YtabhpbkkjijfjaaGreatDoor
set_option maxRecDepth 100000
open Go.RowKit

/-- All that belongs to one tenant of a house. -/
structure TenAt (b n t : Nat) (pb hb tb g o c : Nat) (p : PortS) (st : TurnSt) (arr : Array Value) (cv o0 ov : Value) (w : World) (Fp Ft Fh : Nat → Prop) : Prop where
  blk : w.heap[b]? = some (.cells arr 55 (0, 0))
  a1 : arr[1]? = some (.slice (some ⟨g, o, none⟩) n c)
  a2 : arr[2]? = some (ptrV tb)
  pr : w.cell? ⟨g, o + t, none⟩ = some (ptrV pb)
  tn : t < n
  port : PortAt pb hb p cv o0 ov w Fp
  turns : IsTurns tb st w Ft
  lt : ∀ i, Ft i → i < w.heap.size
  d1 : Fh b ∧ Fh g
  d2 : ∀ i, Fh i → i < w.heap.size ∧ ¬ Fp i ∧ ¬ Ft i
  d3 : ∀ i, Ft i → ¬ Fp i
section
variable {b ab tb : Nat} {pbs hbs : List Nat} {H : HouseS} {pv l0 lv : Value} {w w' : World} {Fh Ft Ft' : Nat → Prop} {Fp : Nat → Nat → Prop}
theorem HouseAt.ten (h : HouseAt b ab tb pbs hbs H pv l0 lv w Fh Ft Fp) {t : Nat} (ht : t < H.ports.length) : ∃ p pb hb g o c cv o0 ov, H.ports[t]? = some p ∧ pbs[t]? = some pb ∧ hbs[t]? = some hb ∧ pv = .slice (some ⟨g, o, none⟩) H.ports.length c ∧ TenAt b H.ports.length t pb hb tb g o c p H.turns (houseArr ab tb pv l0 lv H.clock) cv o0 ov w (Fp t) Ft Fh := by
  have h1 : H.ports[t]? = some H.ports[t] := List.getElem?_eq_getElem ht
  have ht2 : t < pbs.length := by rw [h.np]; exact ht
  have ht3 : t < hbs.length := by rw [h.nh]; exact ht
  have h2 : pbs[t]? = some pbs[t] := List.getElem?_eq_getElem ht2
  have h3 : hbs[t]? = some hbs[t] := List.getElem?_eq_getElem ht3
  obtain ⟨cv, o0, ov, hp⟩ := h.port t _ _ _ h1 h2 h3
  obtain ⟨a, c, rfl, hc, hm, _⟩ := h.prow.form
  obtain ⟨g, o, rfl, hcell, _, hgl⟩ := h.prow.cells (by omega)
  have hpr : w.cell? ⟨g, o + t, none⟩ = some (ptrV pbs[t]) := by
    rw [hcell t (by omega), List.getElem?_map, h2]; rfl
  refine ⟨_, _, _, g, o, c, cv, o0, ov, h1, h2, h3, by rw [h.np], h.log.blk, by rw [← h.np]; rfl, rfl, hpr, ht, hp, h.turns, h.ltt, ⟨h.fb, h.fv g rfl⟩, fun i hi => ⟨h.lth i hi, h.a2 t i hi, h.a1 i hi⟩, fun i hi => h.a3 t i hi⟩
/-- A tenant's port and what waits have changed. -/
theorem HouseAt.next (h : HouseAt b ab tb pbs hbs H pv l0 lv w Fh Ft Fp) {t : Nat} {pb hb : Nat} {p' : PortS} {st' : TurnSt} {cv o0 ov : Value} {Fp' : Nat → Prop} (ht : t < H.ports.length) (h2 : pbs[t]? = some pb) (h3 : hbs[t]? = some hb) (hs : FedSt w pb hb tb p' st' o0 ov (Fp t) Ft cv Fp' Ft' w') (hn : st'.n = H.ports.length) :
    HouseAt b ab tb pbs hbs ⟨H.ports.set t p', st', H.log, H.clock⟩ pv l0 lv w' Fh Ft' (fun s => if s = t then Fp' else Fp s) := by
  have hkh : ∀ i, Fh i → w'.heap[i]? = w.heap[i]? := fun i hi => hs.keep.block i (h.lth i hi) fun e => by
    rcases e with e | e
    · exact h.a2 t i hi e
    · exact h.a1 i hi e
  have hz := hs.keep.size
  have hlen : (H.ports.set t p').length = H.ports.length := List.length_set
  refine { log := h.log.keep (hkh b h.fb) (fun g hg => hkh g (h.fl g hg)), prow := h.prow.keep (fun g hg => hkh g (h.fv g hg)), np := h.np.trans hlen.symm, nh := h.nh.trans hlen.symm, port := fun s p pb' hb' e1 e2 e3 => ?_, turns := hs.turns, nt := hn.trans hlen.symm, clock := h.clock, fb := h.fb, fv := h.fv, fl := h.fl, lth := fun i hi => Nat.lt_of_lt_of_le (h.lth i hi) hz, ltt := (by obtain ⟨_, _, hq⟩ := hs.turns; exact hq.lt), ltp := fun s i hi => ?_, a1 := fun i hi e => ?_, a2 := fun s i hi e => ?_, a3 := fun s i hi e => ?_, a4 := fun s u i hsu e1 e2 => ?_ }
  · by_cases e : t = s
    · subst e
      rw [if_pos rfl]
      have e1 : (H.ports.set t p')[t]? = some p := e1
      rw [List.getElem?_set_self ht] at e1
      rw [h2] at e2
      rw [h3] at e3
      cases e1; cases e2; cases e3
      exact ⟨_, _, _, hs.port⟩
    · have e1 : (H.ports.set t p')[s]? = some p := e1
      rw [List.getElem?_set_ne e] at e1
      rw [if_neg (Ne.symm e)]
      refine (h.port s p pb' hb' e1 e2 e3).keep hs.keep fun i hi e' => ?_
      rcases e' with e' | e'
      · exact h.a4 s t i (Ne.symm e) hi e'
      · exact h.a3 s i e' hi
  · by_cases e : s = t
    · rw [if_pos e] at hi
      exact hs.port.lt i hi
    · rw [if_neg e] at hi
      exact Nat.lt_of_lt_of_le (h.ltp s i hi) hz
  · rcases hs.fart i e with e1 | e1
    · exact h.a1 i hi e1
    · have := h.lth i hi; omega
  · by_cases e' : s = t
    · rw [if_pos e'] at e
      rcases hs.farp i e with e1 | e1
      · exact h.a2 t i hi e1
      · have := h.lth i hi; omega
    · rw [if_neg e'] at e
      exact h.a2 s i hi e
  · by_cases e' : s = t
    · rw [if_pos e'] at e
      exact hs.apart i hi e
    · rw [if_neg e'] at e
      rcases hs.fart i hi with e1 | e1
      · exact h.a3 s i e1 e
      · have := h.ltp s i e; omega
  · by_cases e' : s = t
    · rw [if_pos e'] at e1
      rw [if_neg (fun e => hsu (e'.trans e.symm))] at e2
      rcases hs.farp i e1 with e3 | e3
      · exact h.a4 t u i (fun e => hsu (e'.trans e)) e3 e2
      · have := h.ltp u i e2; omega
    · rw [if_neg e'] at e1
      by_cases e'' : u = t
      · rw [if_pos e''] at e2
        rcases hs.farp i e2 with e3 | e3
        · exact h.a4 s t i e' e1 e3
        · have := h.ltp s i e1; omega
      · rw [if_neg e''] at e2
        exact h.a4 s u i hsu e1 e2
/-- Other blocks have changed. -/
theorem HouseAt.keep (h : HouseAt b ab tb pbs hbs H pv l0 lv w Fh Ft Fp) {G : Nat → Prop} (k : Keeps G w w') (d1 : ∀ i, Fh i → ¬ G i) (d2 : ∀ i, Ft i → ¬ G i) (d3 : ∀ t i, Fp t i → ¬ G i) : HouseAt b ab tb pbs hbs H pv l0 lv w' Fh Ft Fp := by
  have hkh : ∀ i, Fh i → w'.heap[i]? = w.heap[i]? := fun i hi => k.block i (h.lth i hi) (d1 i hi)
  have hz := k.size
  exact { h with log := h.log.keep (hkh b h.fb) (fun g hg => hkh g (h.fl g hg)), prow := h.prow.keep (fun g hg => hkh g (h.fv g hg)), port := fun t p pb hb e1 e2 e3 => (h.port t p pb hb e1 e2 e3).keep k (d3 t), turns := h.turns.keep k d2, lth := fun i hi => Nat.lt_of_lt_of_le (h.lth i hi) hz, ltt := fun i hi => Nat.lt_of_lt_of_le (h.ltt i hi) hz, ltp := fun t i hi => Nat.lt_of_lt_of_le (h.ltp t i hi) hz }
/-- What waits has changed. -/
theorem HouseAt.turned (h : HouseAt b ab tb pbs hbs H pv l0 lv w Fh Ft Fp) {st' : TurnSt} (h1 : IsTurns tb st' w' Ft') (h2 : ∀ i, Ft' i → Ft i ∨ w.heap.size ≤ i) (k : Keeps Ft w w') (hn : st'.n = H.ports.length) : HouseAt b ab tb pbs hbs ⟨H.ports, st', H.log, H.clock⟩ pv l0 lv w' Fh Ft' Fp := by
  have hkh : ∀ i, Fh i → w'.heap[i]? = w.heap[i]? := fun i hi => k.block i (h.lth i hi) (h.a1 i hi)
  have hz := k.size
  exact { h with
    log := h.log.keep (hkh b h.fb) (fun g hg => hkh g (h.fl g hg))
    prow := h.prow.keep (fun g hg => hkh g (h.fv g hg))
    port := fun t p pb hb e1 e2 e3 => (h.port t p pb hb e1 e2 e3).keep k fun i hi e => h.a3 t i e hi
    turns := h1
    nt := hn
    lth := fun i hi => Nat.lt_of_lt_of_le (h.lth i hi) hz
    ltt := by obtain ⟨_, _, hq⟩ := h1; exact hq.lt
    ltp := fun t i hi => Nat.lt_of_lt_of_le (h.ltp t i hi) hz
    a1 := fun i hi e => by
      rcases h2 i e with e1 | e1
      · exact h.a1 i hi e1
      · have := h.lth i hi; omega
    a3 := fun t i hi e => by
      rcases h2 i hi with e1 | e1
      · exact h.a3 t i e1 e
      · have := h.ltp t i e; omega }
end
end Go.Proofs.YtabhpbkkjijfjaaGreatDoor
namespace Go.Proofs.YtabhpbkkjijfjaaGreatDoor
set_option maxRecDepth 100000
open Go.RowKit

section
variable {b ab tb : Nat} {pbs hbs : List Nat} {H : HouseS} {pv l0 lv v' : Value} {w w' : World} {Fh Ft : Nat → Prop} {Fp : Nat → Nat → Prop} {s : List UInt8}
theorem HouseAt.logged (h : HouseAt b ab tb pbs hbs H pv l0 lv w Fh Ft Fp) (hn : BldAt b 3 55 (((houseArr ab tb pv l0 lv H.clock).setIfInBounds 3 (.pointer (some ⟨b, 3, none⟩))).setIfInBounds 4 v') v' (Lib.byteCells H.log ++ Lib.strCells (txt s)) w') (hf : ∀ g, v'.ownBlock = some g → lv.ownBlock = some g ∨ w.heap.size ≤ g) (hk : Keeps (fun j => j = b ∨ lv.ownBlock = some j) w w') :
    HouseAt b ab tb pbs hbs ⟨H.ports, H.turns, H.log ++ s, H.clock⟩ pv (.pointer (some ⟨b, 3, none⟩)) v' w' (fun j => Fh j ∨ v'.ownBlock = some j) Ft Fp := by
  have hz := hk.size
  have e : Lib.byteCells H.log ++ Lib.strCells (txt s) = Lib.byteCells (H.log ++ s) := by
    simp [Lib.byteCells, Lib.strCells, txt_data]
  rw [e] at hn
  have hFh : ∀ j, (j = b ∨ lv.ownBlock = some j) → Fh j := fun j e => by
    rcases e with e | e
    · rw [e]; exact h.fb
    · exact h.fl j e
  have hv : ∀ j, v'.ownBlock = some j → Fh j ∨ w.heap.size ≤ j := fun j e => (hf j e).imp (fun e => h.fl j e) id
  exact { h with
    log := hn
    prow := h.prow.keep fun g hg => hk.block g (h.lth g (h.fv g hg)) fun e => by
      rcases e with e | e
      · exact h.prow.ne_type h.log.blk (by decide) (by rw [hg, e])
      · obtain ⟨cur, h1⟩ := h.prow.typed g hg
        exact Lib.ownBlock_ne h.log.own h1 (by decide) e
    port := fun t p pb hb e1 e2 e3 => (h.port t p pb hb e1 e2 e3).keep hk fun i hi e => h.a2 t i (hFh i e) hi
    turns := h.turns.keep hk fun i hi e => h.a1 i (hFh i e) hi
    fb := .inl h.fb
    fv := fun g hg => .inl (h.fv g hg)
    fl := fun g hg => .inr hg
    lth := fun i hi => by
      rcases hi with hi | hi
      · exact Nat.lt_of_lt_of_le (h.lth i hi) hz
      · have := hn.own.lt i hi; omega
    ltt := fun i hi => Nat.lt_of_lt_of_le (h.ltt i hi) hz
    ltp := fun t i hi => Nat.lt_of_lt_of_le (h.ltp t i hi) hz
    a1 := fun i hi e => by
      rcases hi with hi | hi
      · exact h.a1 i hi e
      · rcases hv i hi with h1 | h1
        · exact h.a1 i h1 e
        · have := h.ltt i e; omega
    a2 := fun t i hi e => by
      rcases hi with hi | hi
      · exact h.a2 t i hi e
      · rcases hv i hi with h1 | h1
        · exact h.a2 t i h1 e
        · have := h.ltp t i e; omega }
theorem HouseAt.clocked (h : HouseAt b ab tb pbs hbs H pv l0 lv w Fh Ft Fp) {c : Int} (hc : I64 c) : HouseAt b ab tb pbs hbs ⟨H.ports, H.turns, H.log, c⟩ pv l0 lv (w.setCell ⟨b, 5, none⟩ (.int .i64 c)) Fh Ft Fp := by
  have hk : Keeps (fun j => j = b) w (w.setCell ⟨b, 5, none⟩ (.int .i64 c)) := (Keeps.refl (fun j => j = b) w).setCell (p := ⟨b, 5, none⟩) (fun _ => rfl) _
  have hz := hk.size
  have hFh : ∀ j, j = b → Fh j := fun j e => by rw [e]; exact h.fb
  have hb := Joins.block_setCell (i := 5) h.log.blk (.int .i64 c)
  exact { h with
    log := ⟨hb, h.log.c0, h.log.c1, h.log.own.kept (row := some b) ⟨rfl, rfl, rfl, by simp [World.setCell], fun k _ hk => Below.heap_setCell _ _ _ _ (fun e => hk (by simp [e]))⟩ (.inr h.log.ne), h.log.ty, h.log.nil⟩
    prow := h.prow.keep fun g hg => hk.block g (h.lth g (h.fv g hg)) fun e => h.prow.ne_type h.log.blk (by decide) (by rw [hg, e])
    port := fun t p pb hb e1 e2 e3 => (h.port t p pb hb e1 e2 e3).keep hk fun i hi e => h.a2 t i (hFh i e) hi
    turns := h.turns.keep hk fun i hi e => h.a1 i (hFh i e) hi
    clock := hc
    lth := fun i hi => Nat.lt_of_lt_of_le (h.lth i hi) hz
    ltt := fun i hi => Nat.lt_of_lt_of_le (h.ltt i hi) hz
    ltp := fun t i hi => Nat.lt_of_lt_of_le (h.ltp t i hi) hz }
end
theorem liesHouse : liesAt Tryz.prog Tryz.prog.depth 55 (6 / Tryz.prog.cellsOf 55) 3 53 1 = true := by kernel_rfl
/-- A text is written behind the log. -/
theorem HouseAt.write {b ab tb : Nat} {pbs hbs : List Nat} {H : HouseS} {pv l0 lv : Value} {w : World} {Fh Ft : Nat → Prop} {Fp : Nat → Nat → Prop} (h : HouseAt b ab tb pbs hbs H pv l0 lv w Fh Ft Fp) (s : List UInt8) (hs : H.log.length + s.length ≤ 100000000000) :
    Calls Tryz.prog 23 #[.pointer (some ⟨b, 3, none⟩), .string (txt s)] w fun e w' => e = .returned (.tuple #[.int .i64 (txt s).size, .nilIface]) ∧ ∃ v' Fh', HouseAt b ab tb pbs hbs ⟨H.ports, H.turns, H.log ++ s, H.clock⟩ pv (.pointer (some ⟨b, 3, none⟩)) v' w' Fh' Ft Fp ∧ (∀ j, Fh' j → Fh j ∨ w.heap.size ≤ j) ∧ Keeps Fh w w' := by
  have hsz : (houseArr ab tb pv l0 lv H.clock).size = 6 := rfl
  refine (iwrite_any b 3 55 _ lv _ (txt s) w h.log (by rw [hsz]; exact liesHouse) (by rw [Lib.byteCells_length, txt_size]; omega)).mono ?_
  rintro e w' ⟨rfl, v', h1, h2, h3⟩
  refine ⟨rfl, v', _, h.logged h1 h2 h3, fun j hj => ?_, h3.mono fun j _ e => ?_⟩
  · rcases hj with e | e
    · exact .inl e
    · exact (h2 j e).imp (fun e => h.fl j e) id
  · rcases e with e | e
    · rw [e]; exact h.fb
    · exact h.fl j e
end Go.Proofs.YtabhpbkkjijfjaaGreatDoor
