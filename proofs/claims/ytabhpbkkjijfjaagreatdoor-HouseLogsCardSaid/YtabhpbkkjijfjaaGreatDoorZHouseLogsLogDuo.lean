/-
  A house and the document's queue side by side in one memory.
-/
import Derived.Test.YtabhpbkkjijfjaaGreatDoorZHouseLogs44
import Derived.Test.YtabhpbkkjijfjaaGreatDoorZHouseLogsLogShift
import Derived.Test.YtabhpbkkjijfjaaGreatDoorZHouseLogsQueuePop
namespace Go.Proofs.YtabhpbkkjijfjaaGreatDoor
set_option maxRecDepth 100000
open Go.RowKit

/-- Both in one memory, apart, above all that was there. -/
def LogAt (w : World) (bh bq qb cb : Nat) (H : HouseS) (q : QueueSt) (C : List (List ByteArray)) (W : World) : Prop :=
  ∃ F1 F2, IsHouse bh H W F1 ∧ IsQC bq qb cb q C W F2 ∧ (∀ i, F1 i → ¬ F2 i) ∧ (∀ i, F1 i ∨ F2 i → w.heap.size ≤ i) ∧ Below w.heap.size w W
section
variable {w W W' : World} {bh bq qb cb : Nat} {H H' : HouseS} {q q' : QueueSt} {C C' : List (List ByteArray)}
theorem LogAt.below (h : LogAt w bh bq qb cb H q C W) (hb : Below W.heap.size W W') : LogAt w bh bq qb cb H q C W' := by
  obtain ⟨F1, F2, h1, h2, h3, h4, h5⟩ := h
  have k := Keeps.of_below (F := fun _ => False) hb
  exact ⟨F1, F2, h1.keep k (fun _ _ e => e), h2.keep k (fun _ _ e => e), h3, h4, h5.trans (hb.mono h5.size)⟩
theorem LogAt.drew (h : LogAt w bh bq qb cb H q C W) : LogAt w bh bq qb cb H q C W.drew := h.below ⟨rfl, rfl, rfl, Nat.le_refl _, fun _ _ => rfl⟩
theorem LogAt.low (h : LogAt w bh bq qb cb H q C W) : Below w.heap.size w W := by obtain ⟨F1, F2, h1, h2, h3, h4, h5⟩ := h; exact h5
theorem log_housed {F1 F2 : Nat → Prop} {v : Value} {e : Ending} (h2 : IsQC bq qb cb q C W F2) (h3 : ∀ i, F1 i → ¬ F2 i) (h4 : ∀ i, F1 i ∨ F2 i → w.heap.size ≤ i) (h5 : Below w.heap.size w W) (hm : Mut W F1 (IsHouse bh H') v e W') : e = .returned v ∧ LogAt w bh bq qb cb H' q C W' := by
  obtain ⟨he, F', m1, m2, m3⟩ := hm
  have hz := h5.size
  refine ⟨he, F', F2, m1, h2.keep m3 (fun i hi e => h3 i e hi), fun i hi e => ?_, fun i hi => ?_, h5.trans (m3.toBelow (fun i hi => h4 i (.inl hi)) hz)⟩
  · rcases m2 i hi with e1 | e1
    · exact h3 i e1 e
    · have := h2.lt i e; omega
  · rcases hi with hi | hi
    · rcases m2 i hi with e1 | e1
      · exact h4 i (.inl e1)
      · omega
    · exact h4 i (.inr hi)
theorem log_queued {F1 F2 : Nat → Prop} {v : Value} {e : Ending} (h1 : IsHouse bh H W F1) (h3 : ∀ i, F1 i → ¬ F2 i) (h4 : ∀ i, F1 i ∨ F2 i → w.heap.size ≤ i) (h5 : Below w.heap.size w W) (hm : Mut W F2 (IsQC bq qb cb q' C') v e W') : e = .returned v ∧ LogAt w bh bq qb cb H q' C' W' := by
  obtain ⟨he, F', m1, m2, m3⟩ := hm
  have hz := h5.size
  refine ⟨he, F1, F', h1.keep m3 h3, m1, fun i hi e => ?_, fun i hi => ?_, h5.trans (m3.toBelow (fun i hi => h4 i (.inr hi)) hz)⟩
  · rcases m2 i e with e1 | e1
    · exact h3 i hi e1
    · have := h1.lt i hi; omega
  · rcases hi with hi | hi
    · exact h4 i (.inl hi)
    · rcases m2 i hi with e1 | e1
      · exact h4 i (.inr e1)
      · omega
theorem LogAt.feed (h : LogAt w bh bq qb cb H q C W) {t : Nat} {p : PortS} (hp : H.ports[t]? = some p) (hk : p.kept = txt []) (hcl : p.come.length ≤ 1000000000) :
    Calls Tryz.prog 8 #[ptrV bh, .int .i64 t, .string (txt [63, 10])] W fun e W' => e = .returned (.int .i64 0) ∧ LogAt w bh bq qb cb ⟨H.ports.set t ⟨txt [], (shiftF (p.come ++ [questT]) H.turns t).1, p.told⟩, (shiftF (p.come ++ [questT]) H.turns t).2, H.log, H.clock⟩ q C W' := by
  obtain ⟨F1, F2, h1, h2, h3, h4, h5⟩ := h
  exact (house_feed h1 hp hk hcl).mono fun e W' hm => log_housed h2 h3 h4 h5 hm
theorem LogAt.idle (h : LogAt w bh bq qb cb H q C W) {r : Int} {line : ByteArray} {st' : TurnSt} (hp : turnPop H.turns = ((r, line, false), st')) (hn : st'.n = H.ports.length) :
    Calls Tryz.prog 10 #[ptrV bh] W fun e W' => e = .returned (.bool false) ∧ LogAt w bh bq qb cb ⟨H.ports, st', H.log, H.clock⟩ q C W' := by
  obtain ⟨F1, F2, h1, h2, h3, h4, h5⟩ := h
  exact (house_idle h1 hp hn).mono fun e W' hm => log_housed h2 h3 h4 h5 hm
theorem LogAt.turn (h : LogAt w bh bq qb cb H q C W) (hT : Tab w.heap.size w) {i : Nat} {st' : TurnSt} {p : PortS} (hp : turnPop H.turns = (((i : Int), questT, true), st')) (hpi : H.ports[i]? = some p) (hn : st'.n = H.ports.length) (htold : p.told.length ≤ 1000000000000) :
    Calls Tryz.prog 10 #[ptrV bh] W fun e W' => e = .returned (.bool true) ∧ LogAt w bh bq qb cb ⟨H.ports.set i ⟨p.kept, (shiftF p.come st' i).1, p.told ++ wrapF sayT⟩, (shiftF p.come st' i).2, H.log, H.clock⟩ q C W' := by
  obtain ⟨F1, F2, h1, h2, h3, h4, h5⟩ := h
  exact (house_turn h1 (hT.on h5) (fun j e => h4 j (.inl e)) h5.size hp hpi hn htold).mono fun e W' hm => log_housed h2 h3 h4 h5 hm
theorem LogAt.tick (h : LogAt w bh bq qb cb H q C W) (hT : Tab w.heap.size w) {k : Nat} (hk : H.clock = (k : Int)) (hk6 : k ≤ 1000000) (hl : H.log.length ≤ 1000000000) :
    Calls Tryz.prog 11 #[ptrV bh] W fun e W' => e = .returned (.tuple #[]) ∧ LogAt w bh bq qb cb ⟨H.ports, H.turns, H.log ++ (Lib.decDigits (k + 1) ++ (waitL H.turns H.ports.length ++ [10])), H.clock + 1⟩ q C W' := by
  obtain ⟨F1, F2, h1, h2, h3, h4, h5⟩ := h
  exact (house_tick h1 (hT.on h5) (fun j e => h4 j (.inl e)) h5.size hk hk6 hl).mono fun e W' hm => log_housed h2 h3 h4 h5 hm
theorem LogAt.log (h : LogAt w bh bq qb cb H q C W) :
    Calls Tryz.prog 14 #[ptrV bh] W fun e W' => e = .returned (.string (txt H.log)) ∧ Below w.heap.size w W' := by
  obtain ⟨F1, F2, h1, h2, h3, h4, h5⟩ := h
  exact (house_log h1).mono fun e W' hm => ⟨hm.1, h5.trans (hm.2.toBelow (fun i hi => h4 i (.inl hi)) h5.size)⟩
theorem LogAt.qbox (h : LogAt w bh bq qb cb H q C W) : W.cell? ⟨qb, 0, none⟩ = some (ptrV bq) := by
  obtain ⟨F1, F2, h1, ⟨g, vs, G, K, h2, hF⟩, h3, h4, h5⟩ := h
  exact Joins.cell_of_block h2.box 0
theorem LogAt.pop (h : LogAt w bh bq qb cb H q C W) (hL : q.wait.length ≤ 1000000) :
    Calls Tryz.prog 9 #[ptrV bq] W fun e W' => e = .returned (.tuple #[.int .i64 (queuePop q).1.1, .string (queuePop q).1.2.1, .bool (queuePop q).1.2.2]) ∧ LogAt w bh bq qb cb H (queuePop q).2 C W' := by
  obtain ⟨F1, F2, h1, ⟨g, vs, G, K, h2, hF⟩, h3, h4, h5⟩ := h
  refine (qpop_any bq q q.wait.length G W h2.queue hL).mono fun e W' hm => log_queued h1 h3 h4 h5 ?_
  obtain ⟨he, G', m1, m2, m3⟩ := hm
  refine ⟨he, _, ⟨g, vs, G', K, h2.queued m1 m2 m3, fun i => Iff.rfl⟩, fun i hi => ?_, m3.mono fun i _ e => (hF i).2 (.inr (.inl e))⟩
  rcases hi with e | e | e
  · exact .inl ((hF i).2 (.inl e))
  · exact (m2 i e).imp (fun e => (hF i).2 (.inr (.inl e))) id
  · exact .inl ((hF i).2 (.inr (.inr e)))
theorem LogAt.waits (h : LogAt w bh bq qb cb H q C W) (hL : q.wait.length ≤ 1000000) (t : Int) :
    Calls Tryz.prog 13 #[ptrV bq, .int .i64 t] W fun e W' => e = .returned (.int .i64 (queueWaits q t)) ∧ Below W.heap.size W W' := by
  obtain ⟨F1, F2, h1, ⟨g, vs, G, K, h2, hF⟩, h3, h4, h5⟩ := h
  exact qwaits_any bq q q.wait.length G t W h2.queue hL
theorem LogAt.shift (h : LogAt w bh bq qb cb H q C W) {t : Nat} {l : List ByteArray} (hl : C[t]? = some l) (hsm : q.wait.length + l.length ≤ 100000) (hn : C.length ≤ 64) :
    Calls Tryz.prog 6 #[.int .i64 t, ptrV cb, ptrV qb] W fun e W' => e = .returned (.tuple #[]) ∧ LogAt w bh bq qb cb H (shiftQ l q t).2 (C.set t (shiftQ l q t).1) W' := by
  obtain ⟨F1, F2, h1, ⟨g, vs, G, K, h2, hF⟩, h3, h4, h5⟩ := h
  refine (qshift_by h2 hl hsm hn).mono fun e W' hm => log_queued h1 h3 h4 h5 ?_
  obtain ⟨he, vs', G', hs⟩ := hm
  refine ⟨he, _, ⟨g, vs', G', K, hs.qc, fun i => Iff.rfl⟩, fun i hi => ?_, hs.keep.mono fun i _ e => (hF i).2 (.inr e)⟩
  rcases hi with e | e | e
  · exact .inl ((hF i).2 (.inl e))
  · exact (hs.far i e).imp (fun e => (hF i).2 (.inr (.inl e))) id
  · exact .inl ((hF i).2 (.inr (.inr e)))
theorem LogAt.wl (h : LogAt w bh bq qb cb H q C W) : (∀ k, (waitL H.turns k).length ≤ 65 * k) ∧ ∀ t : Int, turnWaits H.turns t = ((turnWaits H.turns t).toNat : Int) ∧ (turnWaits H.turns t).toNat < 9223372036854775808 := by
  obtain ⟨F1, F2, ⟨ab, tb, pbs, hbs, pv, l0, lv, Fh, Ft, Fp, h1, hF⟩, h2⟩ := h
  exact ⟨waitL_len h1.turns, fun t => waits_lt h1.turns t⟩
/-- What the append of a line to a tenant's lines comes to. -/
structure PutAt (w : World) (bh bq qb cb : Nat) (H : HouseS) (q : QueueSt) (C : List (List ByteArray)) (W : World) (t : Nat) (l : List ByteArray) (x : ByteArray) (g p c : Nat) (a : Option Addr) : Prop where
  len : p = l.length
  box : W.cell? ⟨cb, 0, none⟩ = some (.slice (some ⟨g, 0, none⟩) C.length C.length)
  cell : W.cell? ⟨g, t, none⟩ = some (.slice a p c)
  fz : W.frozen? ⟨g, t, none⟩ = false
  gl : g < W.heap.size
  row : ∀ o : Obj, Row (W.drew.alloc o) 9 1 (.slice a p c) p (l.map strV)
  ne : some g ≠ (Value.slice a p c).ownBlock
  bl : cb < W.heap.size
  bne : some cb ≠ (Value.slice a p c).ownBlock
  put : ∀ (o : Obj) (b off cap : Nat) (w6 : World), Row w6 9 1 (.slice (some ⟨b, off, none⟩) (p + 1) cap) (p + 1) (l.map strV ++ [.string x]) → (W.drew.alloc o).grownBy w6 (Value.slice a p c).ownBlock → ((Value.slice a p c).ownBlock = some b ∨ b = (W.drew.alloc o).heap.size) → LogAt w bh bq qb cb H q (C.set t (l ++ [x])) (w6.setCell ⟨g, t, none⟩ (.slice (some ⟨b, off, none⟩) (p + 1) cap))
theorem LogAt.puts (h : LogAt w bh bq qb cb H q C W) {t : Nat} {l : List ByteArray} (hl : C[t]? = some l) (x : ByteArray) : ∃ g p c a, PutAt w bh bq qb cb H q C W t l x g p c a := by
  obtain ⟨F1, F2, h1, ⟨g, vs, G, K, h2, hF⟩, h3, h4, h5⟩ := h
  have htC := (List.getElem?_eq_some_iff.1 hl).1
  have htv : t < vs.length := by rw [h2.come.len]; exact htC
  obtain ⟨v, hv⟩ : ∃ v, vs[t]? = some v := ⟨_, List.getElem?_eq_getElem htv⟩
  have hr := h2.come.rows t v hv
  rw [show C.getD t [] = l by rw [List.getD_eq_getElem?_getD, hl]; rfl] at hr
  obtain ⟨a, c, rfl, hpc, hcm, -⟩ := hr.form
  have hcell : W.cell? ⟨g, t, none⟩ = some (.slice a l.length c) := by rw [Joins.cell_of_block h2.come.row t]; simpa using hv
  have hgl := h2.come.lt g h2.come.fg
  have hne : some g ≠ (Value.slice a l.length c).ownBlock := fun e => hr.ne_type h2.come.row (by decide) e.symm
  refine ⟨g, l.length, c, a, rfl, Joins.cell_of_block h2.come.own 0, hcell, Joins.unfrozen_of_block h2.come.row t, hgl, fun o => hr.keep fun k hk => Below.heap_alloc W.drew o k (hr.lt k hk), hne, lt_of_block h2.come.own, fun e => hr.ne_type h2.come.own (by decide) e.symm, fun o b off cap w6 hrow hg hat => ?_⟩
  have bX : Below W.heap.size W (W.drew.alloc o) := ((Below.refl _ W).drew).alloc (Nat.le_refl _) o
  have k6 : Keeps (fun i => i = g ∨ (Value.slice a l.length c).ownBlock = some i) W w6 := (Keeps.of_below bX).grown hg (fun k hk _ => .inr hk)
  have hX : W.heap.size ≤ (W.drew.alloc o).heap.size := bX.size
  have hgb : b ≠ g := fun e => by
    rcases hat with e1 | e1
    · exact hne (by rw [e1, e])
    · omega
  have hg6 : w6.heap[g]? = some (.cells vs.toArray 34 (0, 0)) := (hg.block g (by omega) hne).trans ((bX.block g hgl).trans h2.come.row)
  have hq := h2.laid (l := l ++ [x]) (u := .slice (some ⟨b, off, none⟩) (l.length + 1) cap) (w' := w6.setCell ⟨g, t, none⟩ (.slice (some ⟨b, off, none⟩) (l.length + 1) cap)) hv (by rw [Joins.block_setCell hg6]; simp) (by
    rw [List.length_append, List.map_append]
    exact hrow.keep fun j hj => Below.heap_setCell _ _ _ _ fun e => hgb (by simp only [Value.ownBlock, Option.some.injEq] at hj; exact hj.trans e)) (k6.setCell (p := ⟨g, t, none⟩) (fun _ => .inl rfl) _) (fun j hj => by
    simp only [Value.ownBlock, Option.some.injEq] at hj
    subst hj
    exact hat.imp id fun e => by omega)
  refine (log_queued (v := .int .i64 0) (e := .returned (.int .i64 0)) h1 h3 h4 h5 ⟨rfl, _, ⟨g, _, G, _, hq, fun i => Iff.rfl⟩, fun i hi => ?_, (k6.setCell (p := ⟨g, t, none⟩) (fun _ => .inl rfl) _).mono fun i _ e => (hF i).2 ?_⟩).2
  · rcases hi with e | e | e | e
    · exact .inl ((hF i).2 (.inl e))
    · exact .inl ((hF i).2 (.inr (.inl e)))
    · exact .inl ((hF i).2 (.inr (.inr e)))
    · simp only [Value.ownBlock, Option.some.injEq] at e
      subst e
      rcases hat with e1 | e1
      · exact .inl ((hF _).2 (.inr (.inr (h2.come.fr t _ _ hv e1))))
      · exact .inr (by omega)
  · rcases e with e | e
    · rw [e]; exact .inr (.inr h2.come.fg)
    · exact .inr (.inr (h2.come.fr t _ i hv e))
end
/-- Behind Boot, NewQueue and the boxes. -/
theorem log_start {w W3 W4 X : World} {bh bq N : Nat} {F1 G : Nat → Prop} (h1 : IsHouse bh (newHouse N) W3 F1) (l1 : ∀ i, F1 i → w.heap.size ≤ i) (b1 : Below w.heap.size w W3) (h2 : IsQueue bq ⟨N, 0, []⟩ 0 W4 G) (l2 : ∀ i, G i → W3.heap.size ≤ i) (b2 : Below W3.heap.size W3 W4)
    (hX : X = ((W4.alloc (.cells #[ptrV bq] 30 (0, 0))).alloc (.cells (nilsS N) 34 (0, 0))).alloc (.cells #[.slice (some ⟨W4.heap.size + 1, 0, none⟩) N N] 33 (0, 0))) :
    LogAt w bh bq W4.heap.size (W4.heap.size + 1 + 1) (newHouse N) ⟨N, 0, []⟩ (List.replicate N []) X := by
  have z1 := b1.size
  have z2 := b2.size
  have zX : X.heap.size = W4.heap.size + 3 := by rw [hX]; simp
  have bX : Below W4.heap.size W4 X := by rw [hX]; exact (((Below.refl _ _).alloc (Nat.le_refl _) _).alloc (by simp) _).alloc (by simp; omega) _
  have kX := Keeps.of_below (F := fun _ => False) bX
  have kW := Keeps.of_below (F := fun _ => False) b2
  have lG := h2.ltG
  have lF := h1.lt
  have e0 : X.heap[W4.heap.size]? = some (.cells #[ptrV bq] 30 (0, 0)) := by rw [hX]; exact blk_alloc (blk_alloc (blk_last W4 _ rfl) _) _
  have e1 : X.heap[W4.heap.size + 1]? = some (.cells (nilsS N) 34 (0, 0)) := by rw [hX]; exact blk_alloc (blk_last _ _ (by simp)) _
  have e2 : X.heap[W4.heap.size + 1 + 1]? = some (.cells #[.slice (some ⟨W4.heap.size + 1, 0, none⟩) N N] 33 (0, 0)) := by rw [hX]; exact blk_last _ _ (by simp)
  have hv : ∀ (i : Nat) (v : Value), (List.replicate N (Value.slice none 0 0))[i]? = some v → v = .slice none 0 0 := fun i v h => (List.mem_replicate.1 (List.mem_of_getElem? h)).2
  have hcome : ComeAt (W4.heap.size + 1 + 1) (List.replicate N []) (W4.heap.size + 1) (List.replicate N (Value.slice none 0 0)) X (fun i => i = W4.heap.size + 1 ∨ i = W4.heap.size + 1 + 1) := by
    refine ⟨by rw [List.length_replicate]; exact e2, e1, by rw [List.length_replicate, List.length_replicate], fun i v h => ?_, .inr rfl, .inl rfl, fun i v k h hk => ?_, fun i hi => by omega, fun i j v v' k _ h _ hk => ?_⟩
    · rw [hv i v h, show (List.replicate N ([] : List ByteArray)).getD i [] = [] by rw [List.getD_eq_getElem?_getD, List.getElem?_replicate]; split <;> rfl]
      exact Row.nil _ _ _
    · rw [hv i v h] at hk; cases hk
    · rw [hv i v h] at hk; cases hk
  refine ⟨F1, _, (h1.keep kW (fun _ _ e => e)).keep kX (fun _ _ e => e), ⟨W4.heap.size + 1, _, G, _, ⟨e0, h2.keep kX (fun _ _ e => e), hcome, fun i hi e => ?_, fun e => ?_, fun e => ?_⟩, fun i => Iff.rfl⟩, fun i hi e => ?_, fun i hi => ?_, (b1.trans (b2.mono z1)).trans (bX.mono (by omega))⟩
  · have := lG i hi; omega
  · have := lG _ e; omega
  · omega
  · have := lF i hi
    rcases e with e | e | e | e
    · omega
    · have := l2 i e; omega
    · omega
    · omega
  · rcases hi with e | e | e | e | e
    · exact l1 i e
    · omega
    · have := l2 i e; omega
    · omega
    · omega
end Go.Proofs.YtabhpbkkjijfjaaGreatDoor
