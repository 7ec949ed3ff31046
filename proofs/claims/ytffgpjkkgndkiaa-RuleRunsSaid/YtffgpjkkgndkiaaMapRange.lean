/-
  Ranging over a map of one's own: which keys have come.
-/
import Derived.Test.YtffgpjkkgndkiaaMapCells
import Derived.Maps.Range
namespace Go.Proofs.Ytffgpjkkgndkiaa
set_option maxRecDepth 100000
open Go.RowKit Go.MapKept Go.ChangeMaps

/-- Block r is an iterator over the map in block b; the keys D have come. -/
def Ranging {α : Type} (key : α → Value) (Good : α → Prop) (w : World) (b r : Nat) (f : α → Option Value) (D : List α) : Prop :=
  ∃ (es : Array MapEntry) (clock since : Nat) (seen : Array Nat) (c0 : Nat), w.heap[b]? = some (.map es clock) ∧ w.heap[r]? = some (.mapIter (some b) since seen c0) ∧ since ≤ c0 ∧ since ≤ clock ∧ (∀ x ∈ es.toList, x.born < since) ∧ Stamped es clock ∧
    (∀ e ∈ es.toList, ∃ a, Good a ∧ e.key = key a ∧ f a = some e.val) ∧ (∀ a v, f a = some v → ∃ e ∈ es.toList, e.key = key a) ∧ D.Nodup ∧ ∀ a, a ∈ D ↔ ∃ e ∈ es.toList, e.key = key a ∧ seen.contains e.born = true
section
variable {α : Type} {key : α → Value} {Good : α → Prop} {w w' : World} {b r n : Nat} {f : α → Option Value} {D : List α} {P : Program} {k : TypeId}
theorem Ranging.keep (h : Ranging key Good w b r f D) (hb : w'.heap[b]? = w.heap[b]?) (hr : w'.heap[r]? = w.heap[r]?) : Ranging key Good w' b r f D := by
  obtain ⟨es, clock, since, seen, c0, h1, h2, hx⟩ := h
  exact ⟨es, clock, since, seen, c0, by rw [hb]; exact h1, by rw [hr]; exact h2, hx⟩
theorem Ranging.lt (h : Ranging key Good w b r f D) : r < w.heap.size ∧ b < w.heap.size := by
  obtain ⟨es, clock, since, seen, c0, h1, h2, hx⟩ := h
  exact ⟨lt_of_block h2, lt_of_block h1⟩
theorem Ranging.ne (h : Ranging key Good w b r f D) : r ≠ b := by
  obtain ⟨es, clock, since, seen, c0, h1, h2, hx⟩ := h
  rintro rfl
  rw [h1] at h2; cases h2
theorem rangeLeft_keep (hb : w'.heap[b]? = w.heap[b]?) (hr : w'.heap[r]? = w.heap[r]?) : w'.rangeLeft b r = w.rangeLeft b r := by
  unfold World.rangeLeft; rw [hb, hr]
/-- The loop begins. -/
theorem MapOf.range (h : MapOf key Good w b n f) {t e : TypeId} (ht : P.underlying t = some (.map k e)) :
    ∃ w', (Instr.range t (.map (some b))).run P w = .ok (.pointer (some ⟨w.heap.size, 0, none⟩)) w' ∧ Ranging key Good w' b w.heap.size f [] ∧ Below w.heap.size w w' ∧ w'.heap.size = w.heap.size + 1 := by
  obtain ⟨es, clock, hb, hn, hs, h1, h2⟩ := h
  refine ⟨w.alloc (.mapIter (some b) clock #[] clock), ?_, ⟨es, clock, clock, #[], clock, blk_alloc hb _, blk_last w _ rfl, Nat.le_refl _, Nat.le_refl _, hs.1, hs, h1, h2, List.nodup_nil, fun a => ?_⟩, (Below.refl _ _).alloc (Nat.le_refl _) _, by simp⟩
  · simp [Instr.range, run_underlying ht, MapKept.run_getObj_map hb, newObj, Sem.run, Result.andThen, World.alloc_eq]
  · simp
/-- The step. -/
theorem Ranging.next (K : KeyedBy P k key Good) (h : Ranging key Good w b r f D) (ty : TypeId) :
    ((Instr.next (.pointer (some ⟨r, 0, none⟩)) false ty).run P w = .ok (.tuple #[.bool false]) w ∧ ∀ a v, f a = some v → a ∈ D) ∨
    ∃ (a : α) (v : Value) (w' : World), Good a ∧ f a = some v ∧ a ∉ D ∧ (Instr.next (.pointer (some ⟨r, 0, none⟩)) false ty).run P w = .ok (.tuple #[.bool true, key a, v]) w' ∧ Ranging key Good w' b r f (D ++ [a]) ∧
      (Instr.entry (.pointer (some ⟨r, 0, none⟩))).run P w' = .ok (.tuple #[key a, v]) w' ∧ w'.rangeLeft b r < w.rangeLeft b r ∧ Keeps (fun i => i = r) w w' ∧ w'.heap.size = w.heap.size := by
  have hne := h.ne
  obtain ⟨es, clock, since, seen, c0, hb, hr, hsc, hsk, hold, hs, h1, h2, hD, hDm⟩ := h
  have hst := (stamped_iff es clock).1 hs
  rcases run_next_at (P := P) w ty r b since c0 seen es clock hr hb hold hsc with ⟨h0, hrun⟩ | ⟨e, he, w1, hal, hrun⟩
  · refine .inl ⟨hrun, fun a v hf => ?_⟩
    obtain ⟨e, he, hk⟩ := h2 a v hf
    exact (hDm a).2 ⟨e, he, hk, all_seen es seen h0 e he⟩
  · obtain ⟨hem, hes⟩ := mem_left he
    obtain ⟨a, ha, hk, hv⟩ := h1 e hem
    have hr1 : w1.heap[r]? = some (.mapIter (some b) since seen c0) := by rcases hal with rfl | rfl <;> exact hr
    have hb1 : w1.heap[b]? = some (.map es clock) := by rcases hal with rfl | rfl <;> exact hb
    have hset := heap_set (o' := .mapIter (some b) since (seen.push e.born) clock) hr1
    have hb' : (setBlock w1 r (.mapIter (some b) since (seen.push e.born) clock)).heap[b]? = some (.map es clock) := (hset.2 b (fun e1 => hne e1.symm)).trans hb1
    have hnot : a ∉ D := fun hin => by
      obtain ⟨e', he', hk', hc⟩ := (hDm a).1 hin
      have := entry_eq_of_key hst.2.2 he' hem (hk'.trans hk.symm)
      subst this
      rw [hes] at hc; cases hc
    refine .inr ⟨a, e.val, _, ha, hv, hnot, by rw [← hk]; exact hrun, ⟨es, clock, since, seen.push e.born, clock, hb', hset.1, hsk, hsk, hold, hs, h1, h2, ?_, fun x => ?_⟩, ?_, ?_, ?_, ?_⟩
    · refine List.nodup_append.2 ⟨hD, by simp, fun x hx y hy e1 => ?_⟩
      simp only [List.mem_singleton] at hy
      subst hy; subst e1
      exact hnot hx
    · rw [List.mem_append, List.mem_singleton, hDm]
      constructor
      · rintro (⟨e', he', hk', hc⟩ | rfl)
        · exact ⟨e', he', hk', by rw [contains_push, hc]; simp⟩
        · exact ⟨e, hem, hk, by rw [contains_push]; simp⟩
      · rintro ⟨e', he', hk', hc⟩
        rw [contains_push] at hc
        by_cases hbe : e'.born = e.born
        · have := born_inj hst.2.1 he' hem hbe
          subst this
          exact .inr (K.inj _ _ (hk'.symm.trans hk))
        · have hbf : (e'.born == e.born) = false := by simp [hbe]
          rw [hbf] at hc
          exact .inl ⟨e', he', hk', by simpa using hc⟩
    · rw [← hk]; exact run_entry_at _ r b since seen es clock e hset.1 hb' hem hs.2.1
    · have hr' : (setBlock w1 r (.mapIter (some b) since (seen.push e.born) clock)).heap[r]? = some (.mapIter (some b) since (seen.push e.born) clock) := hset.1
      have g1 : w.rangeLeft b r = (leftOf es seen).size := by simp only [World.rangeLeft, hb, hr]
      have g2 : (setBlock w1 r (.mapIter (some b) since (seen.push e.born) clock)).rangeLeft b r = (leftOf es (seen.push e.born)).size := by simp only [World.rangeLeft, hb', hr']
      rw [g1, g2]
      exact left_shrinks es seen e he
    · rcases hal with rfl | rfl <;> exact ⟨rfl, rfl, rfl, by simp [setBlock], fun i _ hi => hset.2 i hi⟩
    · rcases hal with rfl | rfl <;> simp [setBlock]
end
end Go.Proofs.Ytffgpjkkgndkiaa
