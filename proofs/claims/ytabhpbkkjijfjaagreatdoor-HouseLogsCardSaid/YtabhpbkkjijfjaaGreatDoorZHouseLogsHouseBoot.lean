/-
  house.Boot, of a config that can be built.
-/
import Derived.Test.YtabhpbkkjijfjaaGreatDoorZHouseLogs12
import Derived.Test.YtabhpbkkjijfjaaGreatDoorZHouseLogs17
import Derived.Test.YtabhpbkkjijfjaaGreatDoorZHouseLogs29
namespace Go.Proofs.YtabhpbkkjijfjaaGreatDoor
set_option maxRecDepth 100000
open Go.RowKit

/-- The arena behind the limits of the first k tenants. -/
def limitsA (S : ArS) (qs : List Int) : Nat → ArS
  | 0 => S
  | k + 1 => limitA (limitsA S qs k) k (qs.getD k 0)
theorem limitsA_room (S : ArS) (qs : List Int) : ∀ k, (limitsA S qs k).room = S.room
  | 0 => rfl
  | k + 1 => limitsA_room S qs k
/-- Behind some rounds of Boot. -/
structure BootSt (w0 : World) (b ab tb n : Nat) (ds : List Int) (k : Nat) (pbs hbs : List Nat) (pv : Value) (S : ArS) (FA Ft : Nat → Prop) (W : World) : Prop where
  blk : W.heap[b]? = some (.cells (houseArr ab tb pv (.pointer none) (.slice none 0 0) 0) 55 (0, 0))
  prow : Row W 64 1 pv k (pbs.map ptrV)
  np : pbs.length = k
  nh : hbs.length = k
  port : ∀ (t pb hb : Nat), pbs[t]? = some pb → hbs[t]? = some hb → W.heap[pb]? = some (.cells (portArr hb ⟨#[]⟩ (.slice none 0 0) (.pointer none) (.slice none 0 0)) 66 (0, 0))
  hall : ∀ (t hb : Nat) (d : Int), hbs[t]? = some hb → ds[t]? = some d → W.heap[hb]? = some (.cells (hallArr ab t d (.slice none 0 0) 0 (.slice none 0 0)) 95 (0, 0))
  ar : IsAr ab S W FA
  turns : IsTurns tb ⟨List.replicate n [], 0⟩ W Ft
  nb : w0.heap.size ≤ b
  npb : ∀ j ∈ pbs, w0.heap.size ≤ j
  nhb : ∀ j ∈ hbs, w0.heap.size ≤ j
  npv : ∀ g, pv.ownBlock = some g → w0.heap.size ≤ g
  nfa : ∀ i, FA i → w0.heap.size ≤ i
  nft : ∀ i, Ft i → w0.heap.size ≤ i
  fa : ∀ i, FA i → i ≠ b ∧ i ∉ pbs ∧ i ∉ hbs ∧ pv.ownBlock ≠ some i ∧ ¬ Ft i
  ft : ∀ i, Ft i → i ≠ b ∧ i ∉ pbs ∧ i ∉ hbs ∧ pv.ownBlock ≠ some i
  nodup : pbs.Nodup
  below : Below w0.heap.size w0 W
section
variable {w0 W W' : World} {b ab tb n k : Nat} {ds : List Int} {pbs hbs : List Nat} {pv : Value} {S S' : ArS} {FA FA' Ft : Nat → Prop}
theorem BootSt.lt (h : BootSt w0 b ab tb n ds k pbs hbs pv S FA Ft W) : b < W.heap.size ∧ (∀ j ∈ pbs, j < W.heap.size) ∧ (∀ j ∈ hbs, k ≤ ds.length → j < W.heap.size) := by
  refine ⟨lt_of_block h.blk, fun j hj => ?_, fun j hj hk => ?_⟩
  · obtain ⟨t, ht⟩ := List.mem_iff_getElem?.1 hj
    have htl := (List.getElem?_eq_some_iff.1 ht).1
    exact lt_of_block (h.port t j _ ht (List.getElem?_eq_getElem (by rw [h.nh, ← h.np]; exact htl)))
  · obtain ⟨t, ht⟩ := List.mem_iff_getElem?.1 hj
    have htl := (List.getElem?_eq_some_iff.1 ht).1
    exact lt_of_block (h.hall t j _ ht (List.getElem?_eq_getElem (by have := h.nh; omega)))
/-- The arena has changed. -/
theorem BootSt.limited (h : BootSt w0 b ab tb n ds k pbs hbs pv S FA Ft W) (hkd : k ≤ ds.length) (h1 : IsAr ab S' W' FA') (h2 : ∀ i, FA' i → FA i ∨ W.heap.size ≤ i) (h3 : Keeps FA W W') : BootSt w0 b ab tb n ds k pbs hbs pv S' FA' Ft W' := by
  obtain ⟨l1, l2, l3⟩ := h.lt
  have hz := h3.size
  have hw := h.below.size
  have ltt : ∀ i, Ft i → i < W.heap.size := by obtain ⟨_, _, hq⟩ := h.turns; exact hq.lt
  have blk : ∀ j, j < W.heap.size → ¬ FA j → W'.heap[j]? = W.heap[j]? := fun j hj hn => h3.block j hj hn
  have nF : ∀ j, j < W.heap.size → ¬ FA j → ¬ FA' j := fun j hj hn e => by
    rcases h2 j e with e1 | e1
    · exact hn e1
    · omega
  refine { blk := (blk b l1 fun e => (h.fa b e).1 rfl).trans h.blk, prow := h.prow.keep fun g hg => blk g (h.prow.lt g hg) fun e => (h.fa g e).2.2.2.1 hg, np := h.np, nh := h.nh, port := fun t pb hb e1 e2 => (blk pb (l2 pb (List.mem_of_getElem? e1)) fun e => (h.fa pb e).2.1 (List.mem_of_getElem? e1)).trans (h.port t pb hb e1 e2), hall := fun t hb d e1 e2 => (blk hb (l3 hb (List.mem_of_getElem? e1) hkd) fun e => (h.fa hb e).2.2.1 (List.mem_of_getElem? e1)).trans (h.hall t hb d e1 e2), ar := h1, turns := h.turns.keep h3 fun i hi e => (h.fa i e).2.2.2.2 hi, nb := h.nb, npb := h.npb, nhb := h.nhb, npv := h.npv, nfa := fun i hi => ?_, nft := h.nft, fa := fun i hi => ?_, ft := h.ft, nodup := h.nodup, below := h.below.trans (h3.toBelow (fun i hi => h.nfa i hi) hw) }
  · rcases h2 i hi with e | e
    · exact h.nfa i e
    · omega
  · rcases h2 i hi with e | e
    · exact h.fa i e
    · refine ⟨by omega, fun e1 => ?_, fun e1 => ?_, fun e1 => ?_, fun e1 => ?_⟩
      · have := l2 i e1; omega
      · have := l3 i e1 hkd; omega
      · have := h.prow.lt i e1; omega
      · have := ltt i e1; omega
/-- A tenant more. -/
theorem BootSt.added (h : BootSt w0 b ab tb n ds k pbs hbs pv S FA Ft W) (hkd : k ≤ ds.length) {d : Int} (hd : ds[k]? = some d) {pb hb : Nat} {pv' : Value}
    (e1 : W'.heap[b]? = some (.cells (houseArr ab tb pv' (.pointer none) (.slice none 0 0) 0) 55 (0, 0))) (e2 : Row W' 64 1 pv' (k + 1) ((pbs ++ [pb]).map ptrV))
    (e3 : W'.heap[pb]? = some (.cells (portArr hb ⟨#[]⟩ (.slice none 0 0) (.pointer none) (.slice none 0 0)) 66 (0, 0))) (e4 : W'.heap[hb]? = some (.cells (hallArr ab k d (.slice none 0 0) 0 (.slice none 0 0)) 95 (0, 0)))
    (e5 : Keeps (fun i => i = b ∨ pv.ownBlock = some i) W W') (e6 : ∀ g, pv'.ownBlock = some g → pv.ownBlock = some g ∨ W.heap.size ≤ g) (e7 : W.heap.size ≤ pb ∧ W.heap.size ≤ hb) : BootSt w0 b ab tb n ds (k + 1) (pbs ++ [pb]) (hbs ++ [hb]) pv' S FA Ft W' := by
  obtain ⟨l1, l2, l3⟩ := h.lt
  have hz := e5.size
  have hw := h.below.size
  have ltt : ∀ i, Ft i → i < W.heap.size := by obtain ⟨_, _, hq⟩ := h.turns; exact hq.lt
  have lta := h.ar.lt
  have hpt : ∀ j ∈ pbs, ¬ (j = b ∨ pv.ownBlock = some j) := fun j hj e => by
    obtain ⟨t, ht⟩ := List.mem_iff_getElem?.1 hj
    have htl := (List.getElem?_eq_some_iff.1 ht).1
    have hblk := h.port t j _ ht (List.getElem?_eq_getElem (by rw [h.nh, ← h.np]; exact htl))
    rcases e with e | e
    · rw [e, h.blk] at hblk
      simp only [Option.some.injEq, Obj.cells.injEq] at hblk
      exact absurd hblk.2.1 (by decide)
    · exact h.prow.ne_type hblk (by decide) e
  have hht : ∀ j ∈ hbs, ¬ (j = b ∨ pv.ownBlock = some j) := fun j hj e => by
    obtain ⟨t, ht⟩ := List.mem_iff_getElem?.1 hj
    have htl := (List.getElem?_eq_some_iff.1 ht).1
    have hblk := h.hall t j _ ht (List.getElem?_eq_getElem (by have := h.nh; omega))
    rcases e with e | e
    · rw [e, h.blk] at hblk
      simp only [Option.some.injEq, Obj.cells.injEq] at hblk
      exact absurd hblk.2.1 (by decide)
    · exact h.prow.ne_type hblk (by decide) e
  have hpv : ∀ i, i < W.heap.size → pv.ownBlock ≠ some i → pv'.ownBlock ≠ some i := fun i hi hn e => by
    rcases e6 i e with e1 | e1
    · exact hn e1
    · omega
  refine { blk := e1, prow := e2, np := by rw [List.length_append, h.np]; rfl, nh := by rw [List.length_append, h.nh]; rfl, port := fun t pb' hb' q1 q2 => ?_, hall := fun t hb' d' q1 q2 => ?_, ar := h.ar.keep e5 fun i hi e => ?_, turns := h.turns.keep e5 fun i hi e => ?_, nb := h.nb, npb := fun j hj => ?_, nhb := fun j hj => ?_, npv := fun g hg => ?_, nfa := h.nfa, nft := h.nft, fa := fun i hi => ?_, ft := fun i hi => ?_, nodup := ?_, below := h.below.trans (e5.toBelow (fun i hi => ?_) hw) }
  · by_cases ht : t < k
    · rw [List.getElem?_append_left (by rw [h.np]; exact ht)] at q1
      rw [List.getElem?_append_left (by rw [h.nh]; exact ht)] at q2
      exact (e5.block pb' (l2 pb' (List.mem_of_getElem? q1)) (hpt pb' (List.mem_of_getElem? q1))).trans (h.port t pb' hb' q1 q2)
    · have h1 := (List.getElem?_eq_some_iff.1 q1).1
      rw [List.length_append, h.np] at h1
      have : t = k := by simp at h1; omega
      subst this
      rw [List.getElem?_append_right (by rw [h.np]; omega), h.np, Nat.sub_self] at q1
      rw [List.getElem?_append_right (by rw [h.nh]; omega), h.nh, Nat.sub_self] at q2
      simp at q1 q2
      subst q1 q2
      exact e3
  · by_cases ht : t < k
    · rw [List.getElem?_append_left (by rw [h.nh]; exact ht)] at q1
      exact (e5.block hb' (l3 hb' (List.mem_of_getElem? q1) hkd) (hht hb' (List.mem_of_getElem? q1))).trans (h.hall t hb' d' q1 q2)
    · have h1 := (List.getElem?_eq_some_iff.1 q1).1
      rw [List.length_append, h.nh] at h1
      have : t = k := by simp at h1; omega
      subst this
      rw [List.getElem?_append_right (by rw [h.nh]; omega), h.nh, Nat.sub_self] at q1
      simp at q1
      subst q1
      rw [hd] at q2
      cases q2
      exact e4
  · rcases e with e | e
    · exact (h.fa i hi).1 e
    · exact (h.fa i hi).2.2.2.1 e
  · rcases e with e | e
    · exact (h.ft i hi).1 e
    · exact (h.ft i hi).2.2.2 e
  · rcases List.mem_append.1 hj with e | e
    · exact h.npb j e
    · simp at e; omega
  · rcases List.mem_append.1 hj with e | e
    · exact h.nhb j e
    · simp at e; omega
  · rcases e6 g hg with e | e
    · exact h.npv g e
    · omega
  · have hl := lta i hi
    obtain ⟨q1, q2, q3, q4, q5⟩ := h.fa i hi
    refine ⟨q1, fun e => ?_, fun e => ?_, hpv i hl q4, q5⟩
    · rcases List.mem_append.1 e with e | e
      · exact q2 e
      · simp at e; omega
    · rcases List.mem_append.1 e with e | e
      · exact q3 e
      · simp at e; omega
  · have hl := ltt i hi
    obtain ⟨q1, q2, q3, q4⟩ := h.ft i hi
    refine ⟨q1, fun e => ?_, fun e => ?_, hpv i hl q4⟩
    · rcases List.mem_append.1 e with e | e
      · exact q2 e
      · simp at e; omega
    · rcases List.mem_append.1 e with e | e
      · exact q3 e
      · simp at e; omega
  · rw [List.nodup_append]
    refine ⟨h.nodup, by simp, fun a ha c hc e => ?_⟩
    simp at hc
    have := l2 a ha
    omega
  · rcases hi with e | e
    · rw [e]; exact h.nb
    · exact h.npv i e
end
theorem check_zero {room : Int} {qs : List Int} (h : checkF room qs = 0) : 0 ≤ room ∧ room ≤ 200000 ∧ 1 ≤ qs.length ∧ qs.length ≤ 64 ∧ ∀ q ∈ qs, 0 ≤ q ∧ q ≤ room := by
  by_cases h1 : room < 0 ∨ 200000 < room ∨ qs.length < 1 ∨ 64 < qs.length
  · rw [check_wrong h1] at h; cases h
  · refine ⟨by omega, by omega, by omega, by omega, fun q hq => ?_⟩
    obtain ⟨k, hk⟩ := List.mem_iff_getElem?.1 hq
    refine Classical.byContradiction fun hc => ?_
    rw [check_bad hk (by omega)] at h
    cases h
theorem flatMap_encInt (l : List Int) : l.flatMap encInt = l.map (Value.int .i64) := by
  induction l with
  | nil => rfl
  | cons x l ih => rw [List.flatMap_cons, ih]; rfl
/-- The append of a new port. -/
theorem BootSt.grown {w0 W W8 : World} {b ab tb n k g off cap pc : Nat} {pa : Option Addr} {ds : List Int} {pbs hbs : List Nat} {S : ArS} {FA Ft : Nat → Prop} (h : BootSt w0 b ab tb n ds k pbs hbs (.slice pa k pc) S FA Ft W) (hkd : k < ds.length) {d : Int} (hd : ds[k]? = some d) {hb pb : Nat} (hhb : hb = W.heap.size) (hpb : pb = W.heap.size + 1) {W7 : World} (hW7 : W7 = W.drew.alloc (.cells (hallArr ab k d (.slice none 0 0) 0 (.slice none 0 0)) 95 (0, 0)))
    {Y : World} (hY : Y = (W7.alloc (.cells (portArr hb ⟨#[]⟩ (.slice none 0 0) (.pointer none) (.slice none 0 0)) 66 (0, 0))).alloc (.cells #[ptrV pb] 64 (0, 0)))
    (hrow : Row W8 64 1 (.slice (some ⟨g, off, none⟩) (k + 1) cap) (k + 1) (pbs.map ptrV ++ [ptrV pb])) (hg : Y.grownBy W8 (Value.slice pa k pc).ownBlock) (hat : (Value.slice pa k pc).ownBlock = some g ∨ g = Y.heap.size) :
    BootSt w0 b ab tb n ds (k + 1) (pbs ++ [pb]) (hbs ++ [hb]) (.slice (some ⟨g, off, none⟩) (k + 1) cap) S FA Ft (W8.setCell ⟨b, 1, none⟩ (.slice (some ⟨g, off, none⟩) (k + 1) cap)) := by
  obtain ⟨l1, l2, l3⟩ := h.lt
  have z7 : W7.heap.size = W.heap.size + 1 := by rw [hW7]; simp
  have zY : Y.heap.size = W.heap.size + 3 := by rw [hY]; simp [z7]
  have bW : Below W.heap.size W Y := by
    rw [hY, hW7]
    exact (((Below.refl _ _).drew.alloc (by simp) _).alloc (by simp) _).alloc (by simp; omega) _
  have kY : Keeps (fun i => i = b ∨ (Value.slice pa k pc).ownBlock = some i) W Y := Keeps.of_below bW
  have k8 : Keeps (fun i => i = b ∨ (Value.slice pa k pc).ownBlock = some i) W W8 := kY.grown hg (fun g hg _ => .inr hg)
  have hfar : ∀ j, W.heap.size ≤ j → some j ≠ (Value.slice pa k pc).ownBlock := fun j hj e => by
    have := h.prow.lt j e.symm; omega
  have hbn : some b ≠ (Value.slice pa k pc).ownBlock := fun e => h.prow.ne_type h.blk (by decide) e.symm
  have hb8 : W8.heap[b]? = some (.cells (houseArr ab tb (.slice pa k pc) (.pointer none) (.slice none 0 0) 0) 55 (0, 0)) := (hg.block b (by omega) hbn).trans ((bW.block b l1).trans h.blk)
  have h8 : W8.heap[hb]? = some (.cells (hallArr ab k d (.slice none 0 0) 0 (.slice none 0 0)) 95 (0, 0)) := by
    refine (hg.block hb (by omega) (hfar hb (by omega))).trans ?_
    rw [hY]
    refine (Below.heap_alloc _ _ hb (by simp; omega)).trans ((Below.heap_alloc _ _ hb (by omega)).trans ?_)
    rw [hW7]
    exact blk_last W.drew _ (by rw [hhb]; rfl)
  have p8 : W8.heap[pb]? = some (.cells (portArr hb ⟨#[]⟩ (.slice none 0 0) (.pointer none) (.slice none 0 0)) 66 (0, 0)) := by
    refine (hg.block pb (by omega) (hfar pb (by omega))).trans ?_
    rw [hY]
    refine (Below.heap_alloc _ _ pb (by simp; omega)).trans ?_
    exact blk_last W7 _ (by omega)
  have hgb : g ≠ b := fun e => by
    rw [e] at hrow
    exact hrow.ne_type hb8 (by decide) rfl
  have set : ∀ j, j ≠ b → (W8.setCell ⟨b, 1, none⟩ (.slice (some ⟨g, off, none⟩) (k + 1) cap)).heap[j]? = W8.heap[j]? := fun j hj => Below.heap_setCell _ _ _ _ hj
  refine h.added (d := d) (by omega) hd (Joins.block_setCell (i := 1) hb8 _) ?_ ((set pb (by omega)).trans p8) ((set hb (by omega)).trans h8) (k8.setCell (p := ⟨b, 1, none⟩) (fun _ => .inl rfl) _) (fun j hj => ?_) ⟨by omega, by omega⟩
  · rw [List.map_append]
    exact hrow.keep fun j hj => set j fun e => by
      simp only [Value.ownBlock, Option.some.injEq] at hj
      exact hgb (hj.trans e)
  · simp only [Value.ownBlock, Option.some.injEq] at hj
    subst hj
    exact hat.imp id fun e => by omega
theorem infoPort : (Tryz.prog.info? 64).map (fun i => (i.zero, i.size, i.bytes)) = some (some (.pointer none), 1, 8) := by kernel_rfl
set_option maxHeartbeats 8000000 in
set_option maxRecDepth 100000 in
theorem boot_any (room n : Nat) (qs ds : List Int) (qa da : Option Addr) (qc dc : Nat) (w : World) (hn : n = qs.length) (hq : Sl w 1 8 qa n qc (qs.flatMap encInt)) (hd : Sl w 1 8 da n dc (ds.flatMap encInt)) (hck : checkF room qs = 0) (hlen : ds.length = n) :
    Calls Tryz.prog 4 #[.agg #[.int .i64 (room : Int), .slice qa n qc], .slice da n dc] w fun e w' => ∃ b ab tb pbs hbs pv FA Ft, e = .returned (.tuple #[ptrV b, .int .i64 0]) ∧ BootSt w b ab tb n ds n pbs hbs pv (limitsA (newS room) qs n) FA Ft w' := by
  obtain ⟨r0, r1, n1, n64, hqr⟩ := check_zero hck
  obtain ⟨gq, oq, rfl, -⟩ := hq.row (by omega)
  obtain ⟨gd, od, rfl, -⟩ := hd.row (by omega)
  obtain ⟨X, hX⟩ : ∃ X, X = w.alloc (.cells #[.int .i64 (room : Int), .slice (some ⟨gq, oq, none⟩) n qc] 25 (0, 0)) := ⟨_, rfl⟩
  have hbX : Below w.heap.size w X := by rw [hX]; exact (Below.refl _ _).alloc (Nat.le_refl _) _
  have hrx : X.heap[w.heap.size]? = some (.cells #[.int .i64 (room : Int), .slice (some ⟨gq, oq, none⟩) n qc] 25 (0, 0)) := by rw [hX]; exact blk_last w _ rfl
  have hCH := houseCheck_any (room : Int) qs _ qc X (by rw [← hn]; exact hq.below (by omega) hbX)
  rw [hck] at hCH
  obtain ⟨cb, hcb⟩ : ∃ c, c = w.heap.size := ⟨_, rfl⟩
  rw [← hn] at hCH n1 n64
  rw [← hcb] at hrx
  have HCH := Lib.hid hCH
  have HX := Lib.hid hX
  have HBX := Lib.hid hbX
  have HRX := Lib.hid hrx
  have HCB := Lib.hid hcb
  have HN := Lib.hid hn
  have HQ := Lib.hid hq
  have HD := Lib.hid hd
  have HR := Lib.hid (And.intro hqr hlen)
  have l1 : X.cell? ⟨cb, 0, none⟩ = some (.int .i64 (room : Int)) := Joins.cell_of_block hrx 0
  have l2 : X.cell? ⟨cb, 1, none⟩ = some (.slice (some ⟨gq, oq, none⟩) n qc) := Joins.cell_of_block hrx 1
  clear hck hqr hlen hCH hX hbX hrx hcb hq hd hn
  go_enter Tryz.func4, Tryz.ntmps4
  go_upto_region 1 with fail
  rw [← HX.out, ← HCB.out]
  go_wp2_with fail
  with_reducible refine HCH.out.mono ?_
  rintro e w1 ⟨rfl, hb1⟩
  have hrx1 : w1.heap[cb]? = some (.cells #[.int .i64 (room : Int), .slice (some ⟨gq, oq, none⟩) n qc] 25 (0, 0)) := (hb1.block cb (lt_of_block HRX.out)).trans HRX.out
  have HRX1 := Lib.hid hrx1
  have HB1 := Lib.hid (Below.trans HBX.out (hb1.mono HBX.out.size))
  clear hb1 hrx1 l1 l2
  have l1 : w1.cell? ⟨cb, 0, none⟩ = some (.int .i64 (room : Int)) := Joins.cell_of_block HRX1.out 0
  have l2 : w1.cell? ⟨cb, 1, none⟩ = some (.slice (some ⟨gq, oq, none⟩) n qc) := Joins.cell_of_block HRX1.out 1
  go_upto_region 7 with fail
  obtain ⟨Y, hY⟩ : ∃ Y, Y = w1.alloc (.cells #[.pointer none, .slice none 0 0, .pointer none, .pointer none, .slice none 0 0, .int .i64 0] 55 (0, 0)) := ⟨_, rfl⟩
  obtain ⟨b, hb⟩ : ∃ b, b = w1.heap.size := ⟨_, rfl⟩
  rw [← hY, ← hb]
  have hbY : Below w1.heap.size w1 Y := by rw [hY]; exact (Below.refl _ _).alloc (Nat.le_refl _) _
  have hby : Y.heap[b]? = some (.cells #[.pointer none, .slice none 0 0, .pointer none, .pointer none, .slice none 0 0, .int .i64 0] 55 (0, 0)) := by rw [hY, hb]; exact blk_last w1 _ rfl
  have hsz : Y.heap.size = b + 1 := by rw [hY, hb]; show (w1.heap.push _).size = _; exact Array.size_push _
  have hry : Y.heap[cb]? = some (.cells #[.int .i64 (room : Int), .slice (some ⟨gq, oq, none⟩) n qc] 25 (0, 0)) := (hbY.block cb (lt_of_block HRX1.out)).trans HRX1.out
  have HYB := Lib.hid (And.intro hb (And.intro hsz hbY))
  have HBY := Lib.hid hby
  have HRY := Lib.hid hry
  clear hY hb hbY hby hsz hry l1 l2
  have l1 : Y.cell? ⟨cb, 0, none⟩ = some (.int .i64 (room : Int)) := Joins.cell_of_block HRY.out 0
  have l2 : Y.cell? ⟨cb, 1, none⟩ = some (.slice (some ⟨gq, oq, none⟩) n qc) := Joins.cell_of_block HRY.out 1
  have HAN := Lib.hid (arenaNew_any room Y (by omega))
  go_wp2_with fail
  with_reducible refine HAN.out.mono ?_
  rintro e w2 ⟨arr, rfl, hb2, n0, n1', n2, n3, n4⟩
  obtain ⟨ab, hab⟩ : ∃ a, a = Y.heap.size + 2 := ⟨_, rfl⟩
  rw [← hab]
  have hAR := new_isAr (by omega) n0 n1' n2 n3 n4
  rw [← hab] at hAR
  have HAB := Lib.hid hab
  have HAR := Lib.hid hAR
  have HB2 := Lib.hid hb2
  have HBY2 := Lib.hid ((hb2.block b (lt_of_block HBY.out)).trans HBY.out)
  have HRY2 := Lib.hid ((hb2.block cb (lt_of_block HRY.out)).trans HRY.out)
  clear hab hAR hb2 n0 n1' n2 n3 n4 l1 l2
  have l1 : w2.cell? ⟨b, 0, none⟩ = some (.pointer none) := Joins.cell_of_block HBY2.out 0
  have l2 : w2.frozen? ⟨b, 0, none⟩ = false := Joins.unfrozen_of_block HBY2.out 0
  go_upto_region 8 with fail
  obtain ⟨w3, hw3⟩ : ∃ x, x = w2.setCell ⟨b, 0, none⟩ (.pointer (some ⟨ab, 0, none⟩)) := ⟨_, rfl⟩
  rw [← hw3]
  have hcb : cb ≠ b := by have e1 := HYB.out.1; have e2 := HBX.out; have e3 := HCB.out; have e4 := HB1.out.size; have e5 := lt_of_block HRX1.out; omega
  have hblk3 : ∀ k, k ≠ b → w3.heap[k]? = w2.heap[k]? := fun k hk => by rw [hw3]; exact Below.heap_setCell _ _ _ _ hk
  have hs3 : w3.heap.size = w2.heap.size := by rw [hw3]; simp [World.setCell]
  have hby3 : w3.heap[b]? = some (.cells #[.pointer (some ⟨ab, 0, none⟩), .slice none 0 0, .pointer none, .pointer none, .slice none 0 0, .int .i64 0] 55 (0, 0)) := by rw [hw3]; exact Joins.block_setCell (i := 0) HBY2.out _
  have hry3 := (hblk3 cb hcb).trans HRY2.out
  have HW3 := Lib.hid (And.intro hw3 (And.intro hcb (And.intro hblk3 hs3)))
  have HBY3 := Lib.hid hby3
  have HRY3 := Lib.hid hry3
  clear hw3 hcb hblk3 hs3 hby3 hry3 l1 l2
  have l2 : w3.cell? ⟨cb, 1, none⟩ = some (.slice (some ⟨gq, oq, none⟩) n qc) := Joins.cell_of_block HRY3.out 1
  have HTN := Lib.hid (new_any (n : Int) w3)
  go_wp2_with fail
  with_reducible refine HTN.out.mono ?_
  rintro e w4 h
  rw [NewTurns, if_neg (by omega)] at h
  obtain ⟨tb, Ft, rfl, hT, hFt, hb4⟩ := h
  rw [show (n : Int).toNat = n from rfl] at hT
  have HT := Lib.hid hT
  have HFT := Lib.hid hFt
  have HB4 := Lib.hid hb4
  have HBY4 := Lib.hid ((hb4.block b (lt_of_block HBY3.out)).trans HBY3.out)
  have HRY4 := Lib.hid ((hb4.block cb (lt_of_block HRY3.out)).trans HRY3.out)
  clear hT hFt hb4 l2
  have l1 : w4.cell? ⟨b, 2, none⟩ = some (.pointer none) := Joins.cell_of_block HBY4.out 2
  have l2 : w4.frozen? ⟨b, 2, none⟩ = false := Joins.unfrozen_of_block HBY4.out 2
  go_upto_region 9 with fail
  obtain ⟨w5, hw5⟩ : ∃ x, x = w4.setCell ⟨b, 2, none⟩ (.pointer (some ⟨tb, 0, none⟩)) := ⟨_, rfl⟩
  rw [← hw5]
  have hblk5 : ∀ k, k ≠ b → w5.heap[k]? = w4.heap[k]? := fun k hk => by rw [hw5]; exact Below.heap_setCell _ _ _ _ hk
  have hs5 : w5.heap.size = w4.heap.size := by rw [hw5]; simp [World.setCell]
  have hby5 : w5.heap[b]? = some (.cells #[.pointer (some ⟨ab, 0, none⟩), .slice none 0 0, .pointer (some ⟨tb, 0, none⟩), .pointer none, .slice none 0 0, .int .i64 0] 55 (0, 0)) := by rw [hw5]; exact Joins.block_setCell (i := 2) HBY4.out _
  have hry5 := (hblk5 cb HW3.out.2.1).trans HRY4.out
  have HW5 := Lib.hid (And.intro hw5 (And.intro hblk5 hs5))
  have HBY5 := Lib.hid hby5
  have HRY5 := Lib.hid hry5
  clear hw5 hblk5 hs5 hby5 hry5 l1 l2
  have l2 : w5.cell? ⟨cb, 1, none⟩ = some (.slice (some ⟨gq, oq, none⟩) n qc) := Joins.cell_of_block HRY5.out 1
  go_wp2_with fail
  have hst : BootSt w b ab tb n ds 0 [] [] (.slice none 0 0) (newS room) (fun i => Y.heap.size ≤ i ∧ i < Y.heap.size + 3) Ft w5 := by
    obtain ⟨hb, hsY, hbY⟩ := HYB.out
    obtain ⟨hw3, hcb, hblk3, hs3⟩ := HW3.out
    obtain ⟨hw5, hblk5, hs5⟩ := HW5.out
    have hB1 := HB1.out
    have z1 := hB1.size
    have hB2 := HB2.out
    have z2 := hB2.size
    have hB4 := HB4.out
    have z4 := hB4.size
    have k3 : Keeps (fun i => i = b) w2 w3 := by rw [hw3]; exact (Keeps.refl (fun i => i = b) w2).setCell (p := ⟨b, 0, none⟩) (fun _ => rfl) _
    have k5 : Keeps (fun i => i = b) w4 w5 := by rw [hw5]; exact (Keeps.refl (fun i => i = b) w4).setCell (p := ⟨b, 2, none⟩) (fun _ => rfl) _
    have hal := HAR.out.lt
    have a3 := HAR.out.keep k3 (fun i hi e => by omega)
    have a4 := a3.below hB4
    have a5 := a4.keep k5 (fun i hi e => by omega)
    have t5 := HT.out.keep k5 (fun i hi e => by have := HFT.out i hi; omega)
    exact {
      blk := HBY5.out
      prow := Row.nil _ _ _
      np := rfl
      nh := rfl
      port := fun t pb hb h => by simp at h
      hall := fun t hb d h => by simp at h
      ar := a5
      turns := t5
      nb := by omega
      npb := fun j h => by simp at h
      nhb := fun j h => by simp at h
      npv := fun g h => by cases h
      nfa := fun i h => by omega
      nft := fun i h => by have := HFT.out i h; omega
      fa := fun i h => ⟨by omega, by simp, by simp, by simp [Value.ownBlock], fun e => by have := HFT.out i e; have := hal i h; omega⟩
      ft := fun i h => ⟨by have := HFT.out i h; omega, by simp, by simp, by simp [Value.ownBlock]⟩
      nodup := List.nodup_nil
      below := by
        have h1 : Below w.heap.size w Y := (hB1).trans (hbY.mono z1)
        have h2 : Below w.heap.size w w3 := by rw [hw3]; exact (h1.trans (hB2.mono h1.size)).setCell (show w.heap.size ≤ b by omega) _
        have h4 : Below w.heap.size w w5 := by rw [hw5]; exact (h2.trans (hB4.mono h2.size)).setCell (show w.heap.size ≤ b by omega) _
        exact h4 }
  have HST := Lib.hid hst
  clear hst l2
  go_loopw [8, 9, 10, 11, 47] (fun _ _ _ _ iv ws => ∃ k : Nat, iv = .int .i64 k ∧ k ≤ n ∧ Aside (∃ pbs hbs pv FA, BootSt w b ab tb n ds k pbs hbs pv (limitsA (newS room) qs k) FA Ft ws)) (fun _ _ _ _ iv _ => n - (intOf iv).toNat)
  case atStart => exact ⟨0, rfl, Nat.zero_le _, ⟨[], [], _, _, HST.out⟩⟩
  case round =>
    obtain ⟨k, rfl, hk, hq⟩ := hrel
    obtain ⟨pbs, hbs, pv, FA, hs⟩ := hq.out
    have HS := Lib.hid hs
    clear hq hs
    by_cases hlt : k < n
    · have hkq : k < qs.length := by rw [← HN.out]; exact hlt
      have hqk : qs[k]? = some (qs.getD k 0) := by rw [List.getD_eq_getElem?_getD, List.getElem?_eq_getElem hkq]; rfl
      obtain ⟨q0, q1⟩ := HR.out.1 _ (List.mem_of_getElem? hqk)
      obtain ⟨q, hq⟩ : ∃ q, q = qs.getD k 0 := ⟨_, rfl⟩
      rw [← hq] at hqk q0 q1
      have hLI := limit_yes ab (limitsA (newS room) qs k) FA k q wr HS.out.ar (by omega) q0 (by rw [limitsA_room]; exact q1)
      have HLI := Lib.hid hLI
      have HQK := Lib.hid (And.intro hq hqk)
      have hcq : wr.cell? ⟨gq, oq + k, none⟩ = some (.int .i64 q) := by
        have e := (HQ.out.below (by omega) (HS.out.below)).news k (.int .i64 q) (by rw [flatMap_encInt]; rw [List.getElem?_map, hqk]; rfl)
        rw [show Addr.add ⟨gq, oq, none⟩ k = ⟨gq, oq + k, none⟩ by by_cases hz : k = 0 <;> simp [Addr.add, hz]] at e
        exact e
      have t1 : decide ((k : Int) < (n : Int)) = true := decide_eq_true (by omega)
      have l0 : wr.cell? ⟨b, 0, none⟩ = some (.pointer (some ⟨ab, 0, none⟩)) := Joins.cell_of_block HS.out.blk 0
      have HLN := Lib.hid hlt
      have hdl : k < ds.length := by rw [HR.out.2]; exact hlt
      obtain ⟨d, hd⟩ : ∃ d, ds[k]? = some d := ⟨_, List.getElem?_eq_getElem hdl⟩
      have HDK := Lib.hid (And.intro hd hdl)
      have i1 : (0 : Int) ≤ (k : Int) := by omega
      have i2 : (k : Int) < (n : Int) := by omega
      have hk64 : k < 64 := by omega
      clear hkq hqk q0 q1 hq hLI hdl hd
      go_upto_region 12 with fail
      go_wp2_with fail
      with_reducible refine HLI.out.mono ?_
      rintro e w6 ⟨rfl, FA2, q1, q2, q3⟩
      have hs6 := HS.out.limited (Nat.le_of_lt HDK.out.2) q1 q2 q3
      have e6 : limitA (limitsA (newS room) qs k) k q = limitsA (newS room) qs (k + 1) := by rw [HQK.out.1]; rfl
      rw [e6] at hs6
      obtain ⟨pa, pc, rfl, hp1, hp2, -⟩ := hs6.prow.form
      have HS6 := Lib.hid hs6
      have hcd : w6.cell? ⟨gd, od + k, none⟩ = some (.int .i64 d) := by
        have e := (HD.out.below (by omega) hs6.below).news k (.int .i64 d) (by rw [flatMap_encInt]; rw [List.getElem?_map, HDK.out.1]; rfl)
        rw [show Addr.add ⟨gd, od, none⟩ k = ⟨gd, od + k, none⟩ by by_cases hz : k = 0 <;> simp [Addr.add, hz]] at e
        exact e
      obtain ⟨hb, hhb⟩ : ∃ x, x = w6.heap.size := ⟨_, rfl⟩
      have HHB := Lib.hid hhb
      have HMK := Lib.hid (show Calls Tryz.prog 19 #[.pointer (some ⟨ab, 0, none⟩), .int .i64 (k : Int), .int .i64 d] w6.drew fun e w' => e = .returned (.tuple #[.pointer (some ⟨hb, 0, none⟩), .int .i64 0]) ∧ w' = w6.drew.alloc (.cells (hallArr ab k d (.slice none 0 0) 0 (.slice none 0 0)) 95 (0, 0)) from by rw [hhb]; exact hall_made ab k d w6.drew hk64)
      have HF0 := Lib.hid (show w6.drew.cell? ⟨b, 0, none⟩ = some (.pointer (some ⟨ab, 0, none⟩)) ∧ w6.drew.cell? ⟨gd, od + k, none⟩ = some (.int .i64 d) from ⟨Joins.cell_of_block hs6.blk 0, hcd⟩)
      have hgd : gd < w6.heap.size := by
        have e1 := HD.out.lt (by omega) (by omega)
        have e2 := hs6.below.size
        omega
      have HF1 := Lib.hid (show ∀ o, (w6.drew.alloc o).cell? ⟨b, 0, none⟩ = some (.pointer (some ⟨ab, 0, none⟩)) ∧ (w6.drew.alloc o).cell? ⟨gd, od + k, none⟩ = some (.int .i64 d) from fun o => ⟨(World.cell?_of_block (Below.heap_alloc w6.drew o b (lt_of_block hs6.blk))).trans HF0.out.1, (World.cell?_of_block (Below.heap_alloc w6.drew o gd hgd)).trans HF0.out.2⟩)
      clear q1 q2 q3 hs6 e6 hcd hhb hcq t1 l0 hgd
      go_upto_region 13 with fail
      go_region_held3 (fun w' => w'.cell? ⟨b, 0, none⟩ = some (.pointer (some ⟨ab, 0, none⟩)) ∧ w'.cell? ⟨gd, od + k, none⟩ = some (.int .i64 d)) (first | exact HF2.out | exact HF0.out) ((go_at_call 19; (with_reducible refine HMK.out.mono ?_); rintro e w7 ⟨rfl, hw7⟩; have HW7 := Lib.hid hw7; have HF2 := Lib.hid (show w7.cell? ⟨b, 0, none⟩ = some (.pointer (some ⟨ab, 0, none⟩)) ∧ w7.cell? ⟨gd, od + k, none⟩ = some (.int .i64 d) from by rw [hw7]; exact HF1.out _); clear hw7))
      have z7 : w7.heap.size = w6.heap.size + 1 := by rw [HW7.out]; simp
      have bW7 : Below w6.heap.size w6 w7 := by rw [HW7.out]; exact (Below.refl _ _).drew.alloc (by simp) _
      have hb7 : w7.heap[b]? = some (.cells (houseArr ab tb (.slice pa k pc) (.pointer none) (.slice none 0 0) 0) 55 (0, 0)) := (bW7.block b (lt_of_block HS6.out.blk)).trans HS6.out.blk
      have k1 : w7.cell? ⟨b, 1, none⟩ = some (.slice pa k pc) := Joins.cell_of_block hb7 1
      have bY : Below w6.heap.size w6 ((w7.alloc (.cells (portArr hb ⟨#[]⟩ (.slice none 0 0) (.pointer none) (.slice none 0 0)) 66 (0, 0))).alloc (.cells #[ptrV w7.heap.size] 64 (0, 0))) := (bW7.alloc (by omega) _).alloc (by simp; omega) _
      have HRW := Lib.hid (HS6.out.prow.keep fun g hg => bY.block g (HS6.out.prow.lt g hg))
      have HBN := Lib.hid (show some b ≠ (Value.slice pa k pc).ownBlock from fun e => HS6.out.prow.ne_type HS6.out.blk (by decide) e.symm)
      have hbY := (bY.block b (lt_of_block HS6.out.blk)).trans HS6.out.blk
      have HBL := Lib.hid (And.intro (lt_of_block hbY) hbY)
      have HNW := Lib.hid (show ∀ j u, ([ptrV w7.heap.size] : List Value)[j]? = some u → ((w7.alloc (.cells (portArr hb ⟨#[]⟩ (.slice none 0 0) (.pointer none) (.slice none 0 0)) 66 (0, 0))).alloc (.cells #[ptrV w7.heap.size] 64 (0, 0))).cell? ((⟨w7.heap.size + 1, 0, none⟩ : Addr).add j) = some u from news_alloc _ _ _ (by simp))
      have HZ7 := Lib.hid z7
      obtain ⟨i0, hi, hz0, hz1, hz2⟩ := info_parts infoPort
      have hk64 : k < 64 := by omega
      clear z7 hbY bY bW7 hb7
      go_upto_region 14 with fail
      go_wp2_with ((at_builtin; go_loud (refine wpList_append_row _ rfl (.tmp 76) (.tmp 80) 48 rfl 64 i0 _ 1 8 Tryz.underlying48 hi hz0 hz1 hz2 rfl (by omega) (.slice pa k pc) k (pbs.map ptrV) rfl HRW.out ⟨w7.heap.size + 1, 0, none⟩ 1 1 [ptrV w7.heap.size] rfl rfl HNW.out (by simp [ptrV, Value.oneCell']) (by omega) (by unfold maxLen; omega) (by omega) _ rfl ?_; intro g6 off cap w8 hrow hg hat; have y1 : w8.cell? ⟨b, 1, none⟩ = some (.slice pa k pc) := (hg.cell_far ⟨b, 1, none⟩ HBL.out.1 HBN.out).trans (Joins.cell_of_block HBL.out.2 1); have y2 : w8.frozen? ⟨b, 1, none⟩ = false := (hg.frozen_far ⟨b, 1, none⟩ HBL.out.1 HBN.out).trans (Joins.unfrozen_of_block HBL.out.2 1); have HG := Lib.hid (And.intro hrow (And.intro hg hat)); clear hrow hg hat)))
      obtain ⟨hrow, hg, hat⟩ := HG.out
      have hst := HS6.out.grown HDK.out.2 HDK.out.1 HHB.out HZ7.out HW7.out rfl hrow hg hat
      exact ⟨⟨k + 1, by go_num, by omega, ⟨_, _, _, _, hst⟩⟩, by simp [intOf]; omega⟩
    · have hkn : k = n := by omega
      have t1 : decide ((k : Int) < (n : Int)) = false := decide_eq_false (by omega)
      have HE := Lib.hid (show BootSt w b ab tb n ds n pbs hbs pv (limitsA (newS room) qs n) FA Ft wr from by have := HS.out; rw [hkn] at this; exact this)
      clear hkn
      go_wp2_with fail
      go_ret2
      exact ⟨b, ab, tb, pbs, hbs, pv, FA, Ft, rfl, HE.out⟩
end Go.Proofs.YtabhpbkkjijfjaaGreatDoor
