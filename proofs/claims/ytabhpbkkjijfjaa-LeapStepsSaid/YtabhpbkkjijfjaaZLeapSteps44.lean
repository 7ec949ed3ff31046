/-
  Cells of a tidy list are good keys; Ranging over a map of one's own: which keys have come; What the maps of rule.Next hold, round by round; rule.Next: the cells that live next; What the document's Next holds, round by round; A list of cells that is read from its head on, in memory.
-/
import Derived.Maps.Range
import Derived.Test.YtabhpbkkjijfjaaZLeapSteps9
import Derived.Test.YtabhpbkkjijfjaaZLeapSteps43
import Derived.Test.YtabhpbkkjijfjaaZLeapStepsTidies
namespace Go.Proofs.Ytabhpbkkjijfjaa
set_option maxRecDepth 100000
open Go.RowKit

theorem tidy_good {zs xs : List (Int × Int)} (h : (xs, 0) = tidyF zs) : ∀ c ∈ xs, GoodCell c := by
  obtain ⟨_, hf, ht⟩ := tidyF_ok (l := zs) (by rw [← h])
  rw [ht] at h
  simp only [Prod.mk.injEq, and_true] at h
  intro c hc
  rw [h, mem_sortF] at hc
  have : ¬ farC c = true := fun h' => by
    have := List.any_eq_true.2 ⟨c, hc, h'⟩
    rw [hf] at this; cases this
  simp [farC, farF] at this
  exact ⟨⟨by omega, by omega⟩, ⟨by omega, by omega⟩⟩
end Go.Proofs.Ytabhpbkkjijfjaa
namespace Go.Proofs.Ytabhpbkkjijfjaa
set_option maxRecDepth 100000
open Go.RowKit Go.MapKept Go.ChangeMaps

/-- Block r is an iterator over the map in block b; the keys D have come. -/
def Ranging {α : Type} (key : α → Value) (Good : α → Prop) (w : World) (b r : Nat) (f : α → Option Value) (D : List α) : Prop :=
  ∃ (es : Array MapEntry) (clock since : Nat) (seen : Array Nat) (c0 : Nat), w.heap[b]? = some (.map es clock) ∧ w.heap[r]? = some (.mapIter (some b) since seen c0) ∧ since ≤ c0 ∧ since ≤ clock ∧ (∀ x ∈ es.toList, x.born < since) ∧ Stamped es clock ∧
    (∀ e ∈ es.toList, ∃ a, Good a ∧ e.key = key a ∧ f a = some e.val) ∧ (∀ a v, f a = some v → ∃ e ∈ es.toList, e.key = key a) ∧ D.Nodup ∧ ∀ a, a ∈ D ↔ ∃ e ∈ es.toList, e.key = key a ∧ seen.contains e.born = true
section
variable {α : Type} {key : α → Value} {Good : α → Prop} {w w' : World} {b r n : Nat} {f : α → Option Value} {D : List α} {P : Program} {k : TypeId}
theorem Ranging.keep (h : Ranging key Good w b r f D) (hb : w'.heap[b]? = w.heap[b]?) (hr : w'.heap[r]? = w.heap[r]?) : Ranging key Good w' b r f D := by
  obtain ⟨es, clock, since, seen, c0, h1, h2, hx⟩ := h
  exact ⟨es, clock, since, seen, c0, by rw [hb]; exact h1, by rw [hr]; exact h2, hx⟩
theorem Ranging.lt (h : Ranging key Good w b r f D) : r < w.heap.size ∧ b < w.heap.size := by
  obtain ⟨es, clock, since, seen, c0, h1, h2, hx⟩ := h
  exact ⟨lt_of_block h2, lt_of_block h1⟩
theorem Ranging.ne (h : Ranging key Good w b r f D) : r ≠ b := by
  obtain ⟨es, clock, since, seen, c0, h1, h2, hx⟩ := h
  rintro rfl
  rw [h1] at h2; cases h2
theorem rangeLeft_keep (hb : w'.heap[b]? = w.heap[b]?) (hr : w'.heap[r]? = w.heap[r]?) : w'.rangeLeft b r = w.rangeLeft b r := by
  unfold World.rangeLeft; rw [hb, hr]
/-- The loop begins. -/
theorem MapOf.range (h : MapOf key Good w b n f) {t e : TypeId} (ht : P.underlying t = some (.map k e)) :
    ∃ w', (Instr.range t (.map (some b))).run P w = .ok (.pointer (some ⟨w.heap.size, 0, none⟩)) w' ∧ Ranging key Good w' b w.heap.size f [] ∧ Below w.heap.size w w' ∧ w'.heap.size = w.heap.size + 1 := by
  obtain ⟨es, clock, hb, hn, hs, h1, h2⟩ := h
  refine ⟨w.alloc (.mapIter (some b) clock #[] clock), ?_, ⟨es, clock, clock, #[], clock, blk_alloc hb _, blk_last w _ rfl, Nat.le_refl _, Nat.le_refl _, hs.1, hs, h1, h2, List.nodup_nil, fun a => ?_⟩, (Below.refl _ _).alloc (Nat.le_refl _) _, by simp⟩
  · simp [Instr.range, run_underlying ht, MapKept.run_getObj_map hb, newObj, Sem.run, Result.andThen, World.alloc_eq]
  · simp
/-- The step. -/
theorem Ranging.next (K : KeyedBy P k key Good) (h : Ranging key Good w b r f D) (ty : TypeId) :
    ((Instr.next (.pointer (some ⟨r, 0, none⟩)) false ty).run P w = .ok (.tuple #[.bool false]) w ∧ ∀ a v, f a = some v → a ∈ D) ∨
    ∃ (a : α) (v : Value) (w' : World), Good a ∧ f a = some v ∧ a ∉ D ∧ (Instr.next (.pointer (some ⟨r, 0, none⟩)) false ty).run P w = .ok (.tuple #[.bool true, key a, v]) w' ∧ Ranging key Good w' b r f (D ++ [a]) ∧
      (Instr.entry (.pointer (some ⟨r, 0, none⟩))).run P w' = .ok (.tuple #[key a, v]) w' ∧ w'.rangeLeft b r < w.rangeLeft b r ∧ Keeps (fun i => i = r) w w' ∧ w'.heap.size = w.heap.size := by
  have hne := h.ne
  obtain ⟨es, clock, since, seen, c0, hb, hr, hsc, hsk, hold, hs, h1, h2, hD, hDm⟩ := h
  have hst := (stamped_iff es clock).1 hs
  rcases run_next_at (P := P) w ty r b since c0 seen es clock hr hb hold hsc with ⟨h0, hrun⟩ | ⟨e, he, w1, hal, hrun⟩
  · refine .inl ⟨hrun, fun a v hf => ?_⟩
    obtain ⟨e, he, hk⟩ := h2 a v hf
    exact (hDm a).2 ⟨e, he, hk, all_seen es seen h0 e he⟩
  · obtain ⟨hem, hes⟩ := mem_left he
    obtain ⟨a, ha, hk, hv⟩ := h1 e hem
    have hr1 : w1.heap[r]? = some (.mapIter (some b) since seen c0) := by rcases hal with rfl | rfl <;> exact hr
    have hb1 : w1.heap[b]? = some (.map es clock) := by rcases hal with rfl | rfl <;> exact hb
    have hset := heap_set (o' := .mapIter (some b) since (seen.push e.born) clock) hr1
    have hb' : (setBlock w1 r (.mapIter (some b) since (seen.push e.born) clock)).heap[b]? = some (.map es clock) := (hset.2 b (fun e1 => hne e1.symm)).trans hb1
    have hnot : a ∉ D := fun hin => by
      obtain ⟨e', he', hk', hc⟩ := (hDm a).1 hin
      have := entry_eq_of_key hst.2.2 he' hem (hk'.trans hk.symm)
      subst this
      rw [hes] at hc; cases hc
    refine .inr ⟨a, e.val, _, ha, hv, hnot, by rw [← hk]; exact hrun, ⟨es, clock, since, seen.push e.born, clock, hb', hset.1, hsk, hsk, hold, hs, h1, h2, ?_, fun x => ?_⟩, ?_, ?_, ?_, ?_⟩
    · refine List.nodup_append.2 ⟨hD, by simp, fun x hx y hy e1 => ?_⟩
      simp only [List.mem_singleton] at hy
      subst hy; subst e1
      exact hnot hx
    · rw [List.mem_append, List.mem_singleton, hDm]
      constructor
      · rintro (⟨e', he', hk', hc⟩ | rfl)
        · exact ⟨e', he', hk', by rw [contains_push, hc]; simp⟩
        · exact ⟨e, hem, hk, by rw [contains_push]; simp⟩
      · rintro ⟨e', he', hk', hc⟩
        rw [contains_push] at hc
        by_cases hbe : e'.born = e.born
        · have := born_inj hst.2.1 he' hem hbe
          subst this
          exact .inr (K.inj _ _ (hk'.symm.trans hk))
        · have hbf : (e'.born == e.born) = false := by simp [hbe]
          rw [hbf] at hc
          exact .inl ⟨e', he', hk', by simpa using hc⟩
    · rw [← hk]; exact run_entry_at _ r b since seen es clock e hset.1 hb' hem hs.2.1
    · have hr' : (setBlock w1 r (.mapIter (some b) since (seen.push e.born) clock)).heap[r]? = some (.mapIter (some b) since (seen.push e.born) clock) := hset.1
      have g1 : w.rangeLeft b r = (leftOf es seen).size := by simp only [World.rangeLeft, hb, hr]
      have g2 : (setBlock w1 r (.mapIter (some b) since (seen.push e.born) clock)).rangeLeft b r = (leftOf es (seen.push e.born)).size := by simp only [World.rangeLeft, hb', hr']
      rw [g1, g2]
      exact left_shrinks es seen e he
    · rcases hal with rfl | rfl <;> exact ⟨rfl, rfl, rfl, by simp [setBlock], fun i _ hi => hset.2 i hi⟩
    · rcases hal with rfl | rfl <;> simp [setBlock]
end
end Go.Proofs.Ytabhpbkkjijfjaa
namespace Go.Proofs.Ytabhpbkkjijfjaa
set_option maxRecDepth 100000
open Go.RowKit

def holdV (V : List ((Int × Int) × Int)) (d : Int × Int) : Option Value := if d ∈ V.map (·.1) then some (.int .i64 (sumV V d)) else none
theorem holdV_get (V : List ((Int × Int) × Int)) (d : Int × Int) : (holdV V d).getD (.int .i64 0) = .int .i64 (sumV V d) := by
  unfold holdV
  split
  · rfl
  · next h => rw [sumV_absent h]; rfl
theorem holdV_step (V : List ((Int × Int) × Int)) (d : Int × Int) (x : Int) : updM (holdV V) d (.int .i64 (sumV V d + x)) = holdV (V ++ [(d, x)]) := by
  funext c
  have hs : sumV (V ++ [(d, x)]) c = sumV V c + if d = c then x else 0 := by rw [sumV_append]; simp [sumV]
  have hm : c ∈ (V ++ [(d, x)]).map (·.1) ↔ c ∈ V.map (·.1) ∨ c = d := by rw [List.map_append, List.mem_append]; simp
  by_cases h : c = d
  · subst h
    rw [updM_same, holdV, if_pos (hm.2 (.inr rfl)), hs, if_pos rfl]
  · rw [updM_other _ _ h, holdV, holdV]
    by_cases hc : c ∈ V.map (·.1)
    · rw [if_pos hc, if_pos (hm.2 (.inl hc)), hs, if_neg (fun e => h e.symm), Int.add_zero]
    · rw [if_neg hc, if_neg (fun e => (hm.1 e).elim hc h)]
theorem holdV_nil : (fun _ => none : Int × Int → Option Value) = holdV [] := by funext x; simp [holdV]
def nowM (u : Value) (s : List (Int × Int)) (d : Int × Int) : Option Value := if d ∈ s then some u else none
theorem nowM_nil (u : Value) : (fun _ => none : Int × Int → Option Value) = nowM u [] := by funext x; simp [nowM]
theorem nowM_step (u : Value) (s : List (Int × Int)) (d : Int × Int) : updM (nowM u s) d u = nowM u (s ++ [d]) := by
  funext c
  by_cases h : c = d
  · subst h; simp [updM, nowM]
  · rw [updM_other _ _ h]; simp [nowM, h]
def Ones (V : List ((Int × Int) × Int)) : Prop := ∀ p ∈ V, p.2 = 0 ∨ p.2 = 1
theorem sumV_bound {V : List ((Int × Int) × Int)} (h : Ones V) (d : Int × Int) : 0 ≤ sumV V d ∧ sumV V d ≤ V.length := by
  induction V with
  | nil => exact ⟨by simp [sumV], by simp [sumV]⟩
  | cons p V ih =>
    have h1 := ih (fun q hq => h q (List.mem_cons_of_mem _ hq))
    have h2 := h p (List.mem_cons_self ..)
    have e : sumV (p :: V) d = (if p.1 = d then p.2 else 0) + sumV V d := by simp [sumV]
    rw [e, List.length_cons]
    split <;> omega
theorem ones_nine (s : List (Int × Int)) : Ones (s.flatMap nineV) := fun p hp => by
  obtain ⟨c, _, h⟩ := List.mem_flatMap.1 hp
  simp only [nineV, List.mem_map] at h
  obtain ⟨i, _, rfl⟩ := h
  by_cases hi : i = 4 <;> simp [hi]
theorem ones_take (s : List (Int × Int)) (c : Int × Int) (i : Nat) : Ones (s.flatMap nineV ++ (nineV c).take i) := fun p hp => by
  rcases List.mem_append.1 hp with h | h
  · exact ones_nine s p h
  · exact ones_nine [c] p (by simpa using List.mem_of_mem_take h)
theorem nines_len : ∀ s : List (Int × Int), (s.flatMap nineV).length = s.length * 9
  | [] => rfl
  | c :: s => by rw [List.flatMap_cons, List.length_append, nineV_len, nines_len s, List.length_cons]; omega
theorem len_take (s : List (Int × Int)) (c : Int × Int) (i : Nat) (h : s.length ≤ 4096) : (s.flatMap nineV ++ (nineV c).take i).length ≤ 40000 := by
  have h1 := nines_len s
  have h2 := nineV_len c
  rw [List.length_append, List.length_take, h1, h2]
  omega
theorem nine_next {V : List ((Int × Int) × Int)} {c : Int × Int} {i : Nat} (h : i < 9) : V ++ (nineV c).take (i + 1) = (V ++ (nineV c).take i) ++ [(ninth c i, if i = 4 then 0 else 1)] := by
  rw [List.take_add_one, nineV_get h]
  simp
theorem nine_all (s : List (Int × Int)) {k : Nat} {c : Int × Int} (h : s[k]? = some c) : (s.take k).flatMap nineV ++ (nineV c).take 9 = (s.take (k + 1)).flatMap nineV := by
  have ht : s.take (k + 1) = s.take k ++ [c] := by rw [List.take_add_one, h]; rfl
  rw [ht, List.flatMap_append, List.take_of_length_le (l := nineV c) (by rw [nineV_len]; exact Nat.le_refl _)]
  simp
theorem fst_nine (s : List (Int × Int)) : (s.flatMap nineV).map (·.1) = s.flatMap nineC := by
  rw [List.map_flatMap]
  congr 1
theorem Ranging.mem {α : Type} {key : α → Value} {Good : α → Prop} {P : Program} {k : TypeId} (K : KeyedBy P k key Good) {w : World} {b r : Nat} {f : α → Option Value} {D : List α} (h : Ranging key Good w b r f D) {a : α} (ha : a ∈ D) : ∃ v, f a = some v := by
  obtain ⟨es, clock, since, seen, c0, h1, h2, _, _, _, _, h3, h4, h5, h6⟩ := h
  obtain ⟨e, he, hk, _⟩ := (h6 a).1 ha
  obtain ⟨a', _, hk', hv⟩ := h3 e he
  exact ⟨e.val, by rw [← hv, K.inj _ _ (hk.symm.trans hk')]⟩
theorem nodup_le : ∀ {D l : List (Int × Int)}, D.Nodup → (∀ a ∈ D, a ∈ l) → D.length ≤ l.length
  | [], _, _, _ => Nat.zero_le _
  | a :: D, l, hn, h => by
    have h1 := List.nodup_cons.1 hn
    have ha := h a (List.mem_cons_self ..)
    have ih := nodup_le (l := l.erase a) h1.2 fun b hb => (List.mem_erase_of_ne (fun e => h1.1 (by rw [← e]; exact hb))).2 (h b (List.mem_cons_of_mem _ hb))
    rw [List.length_erase_of_mem ha] at ih
    have := List.length_pos_of_mem ha
    rw [List.length_cons]
    omega
theorem nineCs_len : ∀ s : List (Int × Int), (s.flatMap nineC).length = s.length * 9
  | [] => rfl
  | c :: s => by rw [List.flatMap_cons, List.length_append, nineC_len, nineCs_len s, List.length_cons]; omega
theorem near_le (s : List (Int × Int)) (d : Int × Int) : nearF s d ≤ 8 := by
  unfold nearF
  refine Nat.le_trans (List.length_filter_le _ _) ?_
  simp [eightF]
theorem tidy_near {zs xs : List (Int × Int)} (h : (xs, 0) = tidyF zs) : ∀ c ∈ xs, -1099511627776 < c.1 ∧ c.1 < 1099511627776 ∧ -1099511627776 < c.2 ∧ c.2 < 1099511627776 := by
  obtain ⟨_, hf, ht⟩ := tidyF_ok (l := zs) (by rw [← h])
  rw [ht] at h
  simp only [Prod.mk.injEq, and_true] at h
  intro c hc
  rw [h, mem_sortF] at hc
  have : ¬ farC c = true := fun h' => by
    have := List.any_eq_true.2 ⟨c, hc, h'⟩
    rw [hf] at this; cases this
  simp [farC, farF] at this
  omega
theorem ninth_at (x y : Int) {p t : Nat} (ht : t < 3) : ninth (x, y) (3 * p + t) = (x + ((t : Int) - 1), y + ((p : Int) - 1)) := by
  have h1 : (3 * p + t) % 3 = t := by omega
  have h2 : (3 * p + t) / 3 = p := by omega
  rw [ninth, h1, h2]
  simp only [Prod.mk.injEq]
  omega
end Go.Proofs.Ytabhpbkkjijfjaa
namespace Go.Proofs.Ytabhpbkkjijfjaa
set_option maxRecDepth 100000
open Go.RowKit

def Nexted (w : World) (b l : Int) (zs : List (Int × Int)) (e : Ending) (w' : World) : Prop :=
  ∃ v, e = .returned (.tuple #[v, .int .i64 (nextF b l zs).2]) ∧ Below w.heap.size w w' ∧ Tight w.heap.size w' v (nextF b l zs).1
end Go.Proofs.Ytabhpbkkjijfjaa
namespace Go.Proofs.Ytabhpbkkjijfjaa
set_option maxRecDepth 100000
open Go.RowKit

theorem nowM_mem {u : Value} {U : List (Int × Int)} {d : Int × Int} (h : d ∈ U) : nowM u U = nowM u (U ++ [d]) := by
  funext c
  unfold nowM
  by_cases hc : c ∈ U
  · rw [if_pos hc, if_pos (List.mem_append_left _ hc)]
  · rw [if_neg hc, if_neg (fun h' => by
      rcases List.mem_append.1 h' with h' | h'
      · exact hc h'
      · rw [List.mem_singleton] at h'; subst h'; exact hc h)]
theorem nowM_bool (U : List (Int × Int)) (d : Int × Int) : (nowM (.bool true) U d).getD (.bool false) = .bool (decide (d ∈ U)) := by
  unfold nowM; by_cases h : d ∈ U <;> simp [h]
theorem nineC_next {V : List (Int × Int)} {c : Int × Int} {i : Nat} (h : i < 9) : V ++ (nineC c).take (i + 1) = (V ++ (nineC c).take i) ++ [ninth c i] := by
  rw [List.take_add_one, nineC_get h]
  simp
theorem nineC_all (s : List (Int × Int)) {k : Nat} {c : Int × Int} (h : s[k]? = some c) : (s.take k).flatMap nineC ++ (nineC c).take 9 = (s.take (k + 1)).flatMap nineC := by
  have ht : s.take (k + 1) = s.take k ++ [c] := by rw [List.take_add_one, h]; rfl
  rw [ht, List.flatMap_append, List.take_of_length_le (l := nineC c) (by rw [nineC_len]; exact Nat.le_refl _)]
  simp
theorem lenC_take (s : List (Int × Int)) (c : Int × Int) (i : Nat) (h : s.length ≤ 4096) : (s.flatMap nineC ++ (nineC c).take i).length ≤ 40000 := by
  have h1 := nineCs_len s
  have h2 := nineC_len c
  rw [List.length_append, List.length_take, h1, h2]
  omega
/-- The cells that live, of those that were looked at. -/
structure Lived (lv : Int × Int → Bool) (U L : List (Int × Int)) : Prop where
  nodup : L.Nodup
  mem : ∀ d, d ∈ L ↔ d ∈ U ∧ lv d = true
section
variable {lv : Int × Int → Bool} {U L : List (Int × Int)} {d : Int × Int}
theorem Lived.nil (lv : Int × Int → Bool) : Lived lv [] [] := ⟨List.nodup_nil, fun d => by simp⟩
theorem Lived.seen (h : Lived lv U L) (hd : d ∈ U) : Lived lv (U ++ [d]) L := ⟨h.nodup, fun c => by
  rw [h.mem, List.mem_append, List.mem_singleton]
  constructor
  · rintro ⟨h1, h2⟩; exact ⟨.inl h1, h2⟩
  · rintro ⟨h1 | rfl, h2⟩
    · exact ⟨h1, h2⟩
    · exact ⟨hd, h2⟩⟩
theorem Lived.no (h : Lived lv U L) (hl : lv d = false) : Lived lv (U ++ [d]) L := ⟨h.nodup, fun c => by
  rw [h.mem, List.mem_append, List.mem_singleton]
  constructor
  · rintro ⟨h1, h2⟩; exact ⟨.inl h1, h2⟩
  · rintro ⟨h1 | rfl, h2⟩
    · exact ⟨h1, h2⟩
    · rw [hl] at h2; cases h2⟩
theorem Lived.yes (h : Lived lv U L) (hd : d ∉ U) (hl : lv d = true) : Lived lv (U ++ [d]) (L ++ [d]) :=
  ⟨List.nodup_append.2 ⟨h.nodup, by simp, fun x hx y hy e => by
    simp only [List.mem_singleton] at hy
    subst hy; subst e
    exact hd ((h.mem x).1 hx).1⟩, fun c => by
    rw [List.mem_append, List.mem_append, List.mem_singleton, h.mem]
    constructor
    · rintro (⟨h1, h2⟩ | rfl)
      · exact ⟨.inl h1, h2⟩
      · exact ⟨.inr rfl, hl⟩
    · rintro ⟨h1 | rfl, h2⟩
      · exact .inl ⟨h1, h2⟩
      · exact .inr rfl⟩
theorem Lived.len (h : Lived lv U L) : L.length ≤ U.length := nodup_le h.nodup fun a ha => ((h.mem a).1 ha).1
end
/-- How many of the first j cells at d, but d itself, live. -/
def nearJ (s : List (Int × Int)) (d : Int × Int) (j : Nat) : Nat := ((List.range j).filter fun i => decide (i ≠ 4) && decide (ninth d i ∈ s)).length
theorem nearJ_succ (s : List (Int × Int)) (d : Int × Int) (j : Nat) : nearJ s d (j + 1) = nearJ s d j + if (decide (j ≠ 4) && decide (ninth d j ∈ s)) = true then 1 else 0 := by
  unfold nearJ
  rw [List.range_succ, List.filter_append, List.length_append]
  congr 1
  by_cases h : (decide (j ≠ 4) && decide (ninth d j ∈ s)) = true
  · rw [if_pos h, List.filter_cons, if_pos h]; rfl
  · rw [if_neg h, List.filter_cons, if_neg h]; rfl
theorem nearJ_le (s : List (Int × Int)) (d : Int × Int) (j : Nat) : nearJ s d j ≤ j := by
  unfold nearJ
  refine Nat.le_trans (List.length_filter_le _ _) ?_
  simp
theorem nearJ_nine (s : List (Int × Int)) (d : Int × Int) : nearJ s d 9 = nearF s d := by
  have h8 : eightF d = [0, 1, 2, 3, 5, 6, 7, 8].map (ninth d) := by
    obtain ⟨x, y⟩ := d
    simp [eightF, ninth] <;> omega
  have h9 : (List.range 9).filter (fun i => decide (i ≠ 4)) = [0, 1, 2, 3, 5, 6, 7, 8] := by decide
  unfold nearJ nearF
  rw [h8, List.filter_map, List.length_map, ← h9, List.filter_filter]
  congr 1
  refine List.filter_congr fun i _ => ?_
  simp [Bool.and_comm]
end Go.Proofs.Ytabhpbkkjijfjaa
namespace Go.Proofs.Ytabhpbkkjijfjaa
set_option maxRecDepth 100000
open Go.RowKit

/-- A list read, from its head on. -/
def Cut (w : World) (B : Nat) (v : Value) (X : List (Int × Int)) : Prop := ∃ a c, v = .slice a X.length c ∧ Sl w 2 16 a X.length c (X.flatMap encCell) ∧ ∀ b o, a = some ⟨b, o, none⟩ → b < B
theorem Cut.tail {w : World} {B : Nat} {b o c : Nat} {x : Int × Int} {X : List (Int × Int)} (h : Sl w 2 16 (some ⟨b, o, none⟩) (X.length + 1) c ((x :: X).flatMap encCell)) (hb : b < B) :
    Cut w B (.slice (if c = 1 then some ⟨b, o, none⟩ else some ⟨b, o + 2, none⟩) X.length (c - 1)) X := by
  have hroom := h.room
  have hfits := h.fits
  have hwide := h.wide
  by_cases hc : c = 1
  · rw [if_pos hc]
    have h0 : X = [] := List.eq_nil_of_length_eq_zero (by omega)
    subst h0
    exact ⟨_, _, rfl, ⟨rfl, by simp, by omega, (fun h => by cases h), by simp, fun hn => by simp at hn⟩, fun b' o' e => by
      simp only [Option.some.injEq, Addr.mk.injEq, and_true] at e
      omega⟩
  rw [if_neg hc]
  refine ⟨_, _, rfl, ⟨?_, ?_, ?_, (fun h => by cases h), ?_, fun hn => ⟨b, o + 2, rfl, fun j u hu => ?_⟩⟩, fun b' o' e => ?_⟩
  · rw [flat_len]
  · omega
  · omega
  · omega
  · obtain ⟨b', o', e, hr⟩ := h.row (by omega)
    simp only [Option.some.injEq, Addr.mk.injEq, and_true] at e
    obtain ⟨rfl, rfl⟩ := e
    have := hr (j + 2) u (by simpa [encCell] using hu)
    rwa [show o + (j + 2) = o + 2 + j by omega] at this
  · simp only [Option.some.injEq, Addr.mk.injEq, and_true] at e
    omega
theorem Cut.keeps {w w' : World} {B : Nat} {v : Value} {X : List (Int × Int)} (h : Cut w B v X) (hk : Keeps (fun i => B ≤ i) w w') : Cut w' B v X := by
  obtain ⟨a, c, e, hs, hb⟩ := h
  refine ⟨a, c, e, ⟨hs.len, hs.room, hs.fits, hs.nil, hs.wide, fun hn => ?_⟩, hb⟩
  obtain ⟨b, o, ea, hr⟩ := hs.row hn
  have hlt := hr.lt (by rw [hs.len]; omega)
  have hbB := hb b o ea
  exact ⟨b, o, ea, fun j u hu => by rw [hk.cell (p := ⟨b, o + j, none⟩) hlt (by simp; omega)]; exact hr j u hu⟩
theorem Cut.below {w w' : World} {B : Nat} {v : Value} {X : List (Int × Int)} (h : Cut w B v X) (hk : Below w.heap.size w w') : Cut w' B v X := h.keeps (Keeps.of_below hk)
theorem Cut.of_tight {w : World} {base : Nat} {v : Value} {X : List (Int × Int)} (h : Tight base w v X) (hb : X.length * 16 ≤ 140737488351232) : Cut w w.heap.size v X := by
  obtain ⟨a, c, rfl, _, _⟩ := h.form
  refine ⟨a, c, rfl, h.sl hb, fun b o e => ?_⟩
  rcases h with ⟨h, _⟩ | ⟨g, cap, sp, hv, hh, _⟩
  · simp only [Value.slice.injEq] at h
    rw [h.1] at e; cases e
  · simp only [Value.slice.injEq, true_and] at hv
    rw [hv.1] at e
    simp only [Option.some.injEq, Addr.mk.injEq, and_true] at e
    rw [← e.1]; exact hh.lt
/-- The head of a list that is read. -/
theorem Cut.head {w : World} {B : Nat} {v : Value} {x : Int × Int} {X : List (Int × Int)} (h : Cut w B v (x :: X)) :
    ∃ b o c, v = .slice (some ⟨b, o, none⟩) (X.length + 1) c ∧ X.length + 1 ≤ c ∧ w.cell? ⟨b, o, none⟩ = some (.int .i64 x.1) ∧ w.cell? ⟨b, o + 1, none⟩ = some (.int .i64 x.2) ∧ b < w.heap.size ∧ b < B ∧ Cut w B (.slice (if c = 1 then some ⟨b, o, none⟩ else some ⟨b, o + 2, none⟩) X.length (c - 1)) X := by
  obtain ⟨a, c, rfl, hs, hb⟩ := h
  obtain ⟨b, o, rfl, hr⟩ := hs.row (by simp)
  have hlt := hs.lt (by simp) (by omega)
  refine ⟨b, o, c, rfl, hs.room, ?_, ?_, hlt, hb b o rfl, Cut.tail hs (hb b o rfl)⟩
  · have := hr 0 _ (by simp [encCell]; rfl); exact this
  · have := hr 1 _ (by simp [encCell]; rfl); exact this
theorem Cut.get {w : World} {B n c k : Nat} {a : Option Addr} {X : List (Int × Int)} {x : Int × Int} (h : Cut w B (.slice a n c) X) (hk : X[k]? = some x) :
    ∃ b o, a = some ⟨b, o, none⟩ ∧ w.cell? ⟨b, o + k * 2, none⟩ = some (.int .i64 x.1) ∧ w.cell? ⟨b, o + k * 2 + 1, none⟩ = some (.int .i64 x.2) ∧ b < w.heap.size ∧ b < B := by
  obtain ⟨a', c', e, hs, hb⟩ := h
  simp only [Value.slice.injEq] at e
  obtain ⟨rfl, rfl, rfl⟩ := e
  have hlt : k < X.length := (List.getElem?_eq_some_iff.1 hk).1
  obtain ⟨b, o, rfl, hrow⟩ := hs.row (by omega)
  refine ⟨b, o, rfl, hrow _ _ (flat_nth hk).1, ?_, hs.lt (by omega) (by omega), hb b o rfl⟩
  have := hrow _ _ (flat_nth hk).2
  rw [← Nat.add_assoc] at this
  exact this
end Go.Proofs.Ytabhpbkkjijfjaa
