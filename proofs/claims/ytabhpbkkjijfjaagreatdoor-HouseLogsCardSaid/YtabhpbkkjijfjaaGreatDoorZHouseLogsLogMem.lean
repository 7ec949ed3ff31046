/-
  The document's queue and the lines that have come, in memory, behind their boxed variables.
-/
import Derived.Test.YtabhpbkkjijfjaaGreatDoorZHouseLogs44
import Derived.Test.YtabhpbkkjijfjaaGreatDoorZHouseLogsQueue
namespace Go.Proofs.YtabhpbkkjijfjaaGreatDoor
set_option maxRecDepth 100000
open Go.RowKit

/-- The lines that have come, by tenant. -/
structure ComeAt (cb : Nat) (C : List (List ByteArray)) (g : Nat) (vs : List Value) (w : World) (F : Nat → Prop) : Prop where
  own : w.heap[cb]? = some (.cells #[.slice (some ⟨g, 0, none⟩) C.length C.length] 33 (0, 0))
  row : w.heap[g]? = some (.cells vs.toArray 34 (0, 0))
  len : vs.length = C.length
  rows : ∀ (i : Nat) (v : Value), vs[i]? = some v → Row w 9 1 v (C.getD i []).length ((C.getD i []).map strV)
  fb : F cb
  fg : F g
  fr : ∀ (i : Nat) (v : Value) (k : Nat), vs[i]? = some v → v.ownBlock = some k → F k
  lt : ∀ i, F i → i < w.heap.size
  apart : ∀ (i j : Nat) (v v' : Value) (k : Nat), i ≠ j → vs[i]? = some v → vs[j]? = some v' → v.ownBlock = some k → v'.ownBlock ≠ some k
theorem ComeAt.keep {cb g : Nat} {C : List (List ByteArray)} {vs : List Value} {w w' : World} {F G : Nat → Prop} (h : ComeAt cb C g vs w F) (k : Keeps G w w') (hd : ∀ i, F i → ¬ G i) : ComeAt cb C g vs w' F := by
  have blk : ∀ i, F i → w'.heap[i]? = w.heap[i]? := fun i hi => k.block i (h.lt i hi) (hd i hi)
  exact ⟨(blk cb h.fb).trans h.own, (blk g h.fg).trans h.row, h.len, fun i v hv => (h.rows i v hv).keep fun j hj => blk j (h.fr i v j hv hj), h.fb, h.fg, h.fr, fun i hi => Nat.lt_of_lt_of_le (h.lt i hi) k.size, h.apart⟩
/-- One tenant's lines have changed. -/
theorem ComeAt.laid {cb g t : Nat} {C : List (List ByteArray)} {vs : List Value} {v u : Value} {l : List ByteArray} {w w' : World} {F : Nat → Prop} (h : ComeAt cb C g vs w F) (hv : vs[t]? = some v) (hg : w'.heap[g]? = some (.cells (vs.set t u).toArray 34 (0, 0)))
    (hrow : Row w' 9 1 u l.length (l.map strV)) (hk : Keeps (fun i => i = g ∨ v.ownBlock = some i) w w') (hu : ∀ k, u.ownBlock = some k → v.ownBlock = some k ∨ w.heap.size ≤ k) : ComeAt cb (C.set t l) g (vs.set t u) w' (fun i => F i ∨ u.ownBlock = some i) := by
  have htv := (List.getElem?_eq_some_iff.1 hv).1
  have htC : t < C.length := by rw [← h.len]; exact htv
  have hz := hk.size
  have hcb : ¬ (cb = g ∨ v.ownBlock = some cb) := fun e => by
    rcases e with e | e
    · have h1 := h.own
      rw [e, h.row] at h1
      simp only [Option.some.injEq, Obj.cells.injEq] at h1
      exact absurd h1.2.1 (by decide)
    · exact (h.rows t v hv).ne_type h.own (by decide) e
  refine ⟨?_, hg, by rw [List.length_set, List.length_set]; exact h.len, fun i x hx => ?_, .inl h.fb, .inl h.fg, fun i x k hx hk' => ?_, fun i hi => ?_, fun i j x y k hij hx hy hxk => ?_⟩
  · rw [List.length_set]; exact (hk.block cb (h.lt cb h.fb) hcb).trans h.own
  · by_cases e : t = i
    · subst e
      rw [List.getElem?_set_self htv] at hx
      cases hx
      rw [show (C.set t l).getD t [] = l by rw [List.getD_eq_getElem?_getD, List.getElem?_set_self htC]; rfl]
      exact hrow
    · rw [List.getElem?_set_ne e] at hx
      rw [show (C.set t l).getD i [] = C.getD i [] by rw [List.getD_eq_getElem?_getD, List.getElem?_set_ne e, List.getD_eq_getElem?_getD]]
      have hr := h.rows i x hx
      refine hr.keep fun k hk' => hk.block k (hr.lt k hk') fun e' => ?_
      rcases e' with e' | e'
      · exact hr.ne_type h.row (by decide) (by rw [hk', e'])
      · exact h.apart i t x v k (Ne.symm e) hx hv hk' e'
  · by_cases e : t = i
    · subst e
      rw [List.getElem?_set_self htv] at hx
      cases hx
      exact .inr hk'
    · rw [List.getElem?_set_ne e] at hx
      exact .inl (h.fr i x k hx hk')
  · rcases hi with hi | hi
    · exact Nat.lt_of_lt_of_le (h.lt i hi) hz
    · exact hrow.lt i hi
  · by_cases e : t = i
    · subst e
      rw [List.getElem?_set_self htv] at hx
      rw [List.getElem?_set_ne hij] at hy
      cases hx
      intro hyk
      rcases hu k hxk with e1 | e1
      · exact h.apart t j v y k hij hv hy e1 hyk
      · have := (h.rows j y hy).lt k hyk; omega
    · rw [List.getElem?_set_ne e] at hx
      by_cases e2 : t = j
      · subst e2
        rw [List.getElem?_set_self htv] at hy
        cases hy
        intro hyk
        rcases hu k hyk with e1 | e1
        · exact h.apart i t x v k hij hx hv hxk e1
        · have := (h.rows i x hx).lt k hxk; omega
      · rw [List.getElem?_set_ne e2] at hy
        exact h.apart i j x y k hij hx hy hxk
/-- The queue, the lines that have come, side by side. -/
structure QCAt (bq qb cb : Nat) (q : QueueSt) (C : List (List ByteArray)) (g : Nat) (vs : List Value) (w : World) (G K : Nat → Prop) : Prop where
  box : w.heap[qb]? = some (.cells #[ptrV bq] 30 (0, 0))
  queue : IsQueue bq q q.wait.length w G
  come : ComeAt cb C g vs w K
  a1 : ∀ i, G i → ¬ K i
  a2 : ¬ G qb
  a3 : ¬ K qb
def IsQC (bq qb cb : Nat) (q : QueueSt) (C : List (List ByteArray)) (w : World) (F : Nat → Prop) : Prop := ∃ g vs G K, QCAt bq qb cb q C g vs w G K ∧ ∀ i, F i ↔ (i = qb ∨ G i ∨ K i)
section
variable {bq qb cb g : Nat} {q : QueueSt} {C : List (List ByteArray)} {vs : List Value} {w w' : World} {F G K : Nat → Prop}
theorem IsQueue.own {L : Nat} (h : IsQueue bq q L w G) : IsQueue bq q q.wait.length w G := by
  obtain ⟨v, h⟩ := h
  exact ⟨v, h.own, h.row, h.fb, h.fr, h.lt, Nat.le_refl _, h.small, h.next, h.all⟩
theorem IsQueue.ltG {L : Nat} (h : IsQueue bq q L w G) : ∀ i, G i → i < w.heap.size := by obtain ⟨v, h⟩ := h; exact h.lt
theorem QCAt.lt (h : QCAt bq qb cb q C g vs w G K) : ∀ i, (i = qb ∨ G i ∨ K i) → i < w.heap.size := fun i hi => by
  rcases hi with e | e | e
  · rw [e]; exact lt_of_block h.box
  · exact h.queue.ltG i e
  · exact h.come.lt i e
theorem QCAt.keep {F' : Nat → Prop} (h : QCAt bq qb cb q C g vs w G K) (k : Keeps F' w w') (hd : ∀ i, (i = qb ∨ G i ∨ K i) → ¬ F' i) : QCAt bq qb cb q C g vs w' G K :=
  ⟨(k.block qb (lt_of_block h.box) (hd qb (.inl rfl))).trans h.box, h.queue.keep k fun i hi => hd i (.inr (.inl hi)), h.come.keep k fun i hi => hd i (.inr (.inr hi)), h.a1, h.a2, h.a3⟩
theorem IsQC.lt (h : IsQC bq qb cb q C w F) : ∀ i, F i → i < w.heap.size := by
  obtain ⟨g, vs, G, K, h, hF⟩ := h
  exact fun i hi => h.lt i ((hF i).1 hi)
theorem IsQC.keep {F' : Nat → Prop} (h : IsQC bq qb cb q C w F) (k : Keeps F' w w') (hd : ∀ i, F i → ¬ F' i) : IsQC bq qb cb q C w' F := by
  obtain ⟨g, vs, G, K, h, hF⟩ := h
  exact ⟨g, vs, G, K, h.keep k fun i hi => hd i ((hF i).2 hi), hF⟩
/-- The queue has changed. -/
theorem QCAt.queued {q' : QueueSt} {L : Nat} {G' : Nat → Prop} (h : QCAt bq qb cb q C g vs w G K) (h1 : IsQueue bq q' L w' G') (h2 : ∀ i, G' i → G i ∨ w.heap.size ≤ i) (k : Keeps G w w') : QCAt bq qb cb q' C g vs w' G' K :=
  ⟨(k.block qb (lt_of_block h.box) h.a2).trans h.box, h1.own, h.come.keep k fun i hi e => h.a1 i e hi, fun i hi e => by
    rcases h2 i hi with e1 | e1
    · exact h.a1 i e1 e
    · have := h.come.lt i e; omega, fun e => by
    rcases h2 qb e with e1 | e1
    · exact h.a2 e1
    · have := lt_of_block h.box; omega, h.a3⟩
/-- One tenant's lines have changed. -/
theorem QCAt.laid {t : Nat} {v u : Value} {l : List ByteArray} (h : QCAt bq qb cb q C g vs w G K) (hv : vs[t]? = some v) (hg : w'.heap[g]? = some (.cells (vs.set t u).toArray 34 (0, 0)))
    (hrow : Row w' 9 1 u l.length (l.map strV)) (hk : Keeps (fun i => i = g ∨ v.ownBlock = some i) w w') (hu : ∀ k, u.ownBlock = some k → v.ownBlock = some k ∨ w.heap.size ≤ k) : QCAt bq qb cb q (C.set t l) g (vs.set t u) w' G (fun i => K i ∨ u.ownBlock = some i) := by
  have hsub : ∀ i, (i = g ∨ v.ownBlock = some i) → K i := fun i e => by
    rcases e with e | e
    · rw [e]; exact h.come.fg
    · exact h.come.fr t v i hv e
  have hnew : ∀ i, u.ownBlock = some i → K i ∨ w.heap.size ≤ i := fun i e => (hu i e).imp (fun e => h.come.fr t v i hv e) id
  refine ⟨(hk.block qb (lt_of_block h.box) fun e => h.a3 (hsub qb e)).trans h.box, h.queue.keep hk fun i hi e => h.a1 i hi (hsub i e), h.come.laid hv hg hrow hk hu, fun i hi e => ?_, h.a2, fun e => ?_⟩
  · rcases e with e | e
    · exact h.a1 i hi e
    · rcases hnew i e with e1 | e1
      · exact h.a1 i hi e1
      · have := h.queue.ltG i hi; omega
  · rcases e with e | e
    · exact h.a3 e
    · rcases hnew qb e with e1 | e1
      · exact h.a3 e1
      · have := lt_of_block h.box; omega
/-- The first of one tenant's lines goes. -/
theorem QCAt.popped {t n c : Nat} {a : Option Addr} {x : ByteArray} {l : List ByteArray} (h : QCAt bq qb cb q C g vs w G K) (hv : vs[t]? = some (.slice a n c)) (hl : C[t]? = some (x :: l)) (hn : n = l.length + 1) : ∃ k o, a = some ⟨k, o, none⟩ ∧ w.cell? ⟨k, o, none⟩ = some (.string x) ∧ w.cell? ⟨g, t, none⟩ = some (.slice a n c) ∧ w.frozen? ⟨g, t, none⟩ = false ∧
    ∀ b', b' = (some ⟨k, if c = 1 then o else o + 1, none⟩ : Option Addr) → QCAt bq qb cb q (C.set t l) g (vs.set t (.slice b' (n - 1) (c - 1))) (w.setCell ⟨g, t, none⟩ (.slice b' (n - 1) (c - 1))) G K := by
  have hr := h.come.rows t _ hv
  rw [show C.getD t [] = x :: l by rw [List.getD_eq_getElem?_getD, hl]; rfl, List.length_cons, ← hn] at hr
  obtain ⟨k, o, rfl, hcell, -, -⟩ := hr.cells (by omega)
  obtain ⟨k', o', e, hcut⟩ := hr.cut (k := 1) (by omega) (by omega)
  simp only [Option.some.injEq, Addr.mk.injEq] at e
  obtain ⟨rfl, rfl, -⟩ := e
  have hrow := h.come.row
  have hne : k ≠ g := fun e => hr.ne_type hrow (by decide) (by rw [← e]; rfl)
  refine ⟨k, o, rfl, ?_, ?_, Joins.unfrozen_of_block hrow t, fun b' hb' => ?_⟩
  · have := hcell 0 (by omega)
    rw [Nat.add_zero] at this
    rw [this]; rfl
  · rw [Joins.cell_of_block hrow t]; simpa using hv
  · subst hb'
    have hq := h.laid (u := .slice (some ⟨k, if c = 1 then o else o + 1, none⟩) (n - 1) (c - 1)) (l := l) (w' := w.setCell ⟨g, t, none⟩ (.slice (some ⟨k, if c = 1 then o else o + 1, none⟩) (n - 1) (c - 1))) hv (by rw [Joins.block_setCell hrow]; simp) ?_ ((Keeps.refl (fun i => i = g ∨ (Value.slice (some ⟨k, o, none⟩) n c).ownBlock = some i) w).setCell (p := ⟨g, t, none⟩) (fun _ => .inl rfl) _) (fun j hj => .inl hj)
    · have e : (fun i => K i ∨ (Value.slice (some ⟨k, if c = 1 then o else o + 1, none⟩) (n - 1) (c - 1)).ownBlock = some i) = K := by
        funext i
        refine propext ⟨fun e => e.elim id fun e => h.come.fr t _ i hv e, .inl⟩
      rw [e] at hq
      exact hq
    · rw [show l.length = n - 1 by omega]
      have e1 : ((x :: l).map strV).drop (1 * 1) = l.map strV := rfl
      rw [e1] at hcut
      exact hcut.keep fun j hj => Below.heap_setCell _ _ _ _ fun e => hne (by simp [Value.ownBlock] at hj; exact hj.trans e)
end
end Go.Proofs.YtabhpbkkjijfjaaGreatDoor
