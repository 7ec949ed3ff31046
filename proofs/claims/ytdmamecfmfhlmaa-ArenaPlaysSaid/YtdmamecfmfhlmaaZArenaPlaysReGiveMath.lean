/-
  What give comes to, of the document's arena, and that both arenas give alike: plain lists.
-/
import Derived.Test.YtdmamecfmfhlmaaZArenaPlays31
namespace Go.Proofs.Ytdmamecfmfhlmaa
set_option maxRecDepth 100000

theorem filterMap_same {α β : Type} {f g : α → Option β} : ∀ {l : List α}, (∀ x ∈ l, f x = g x) → l.filterMap f = l.filterMap g
  | [], _ => rfl
  | a :: l, h => by
    rw [List.filterMap_cons, List.filterMap_cons, h a List.mem_cons_self, filterMap_same fun x hx => h x (List.mem_cons_of_mem _ hx)]
/-- What lies under the numbers from a on, n of them. -/
def thF (L : List (Option Ent)) (a n : Nat) : List (Nat × Ent) := (List.range' a n).filterMap fun i => (atL L i).map fun x => (i, x)
theorem thL_F (L : List (Option Ent)) : thL L = thF L 0 L.length := by
  unfold thL thT thF
  rw [List.range_eq_range']
theorem thF_add (L : List (Option Ent)) (a m n : Nat) : thF L a (m + n) = thF L a m ++ thF L (a + m) n := by
  unfold thF
  rw [← List.range'_append_1, List.filterMap_append]
theorem mem_thF {L : List (Option Ent)} {a n : Nat} {p : Nat × Ent} (h : p ∈ thF L a n) : a ≤ p.1 ∧ p.1 < a + n ∧ atL L p.1 = some p.2 := by
  unfold thF at h
  rw [List.mem_filterMap] at h
  obtain ⟨i, hi, hp⟩ := h
  rw [List.mem_range'_1] at hi
  cases hx : atL L i with
  | none => rw [hx] at hp; cases hp
  | some x =>
    rw [hx] at hp
    simp only [Option.map_some, Option.some.injEq] at hp
    subst hp
    exact ⟨hi.1, hi.2, hx⟩
theorem thF_congr {L L' : List (Option Ent)} {a n : Nat} (h : ∀ i, a ≤ i → i < a + n → atL L' i = atL L i) : thF L' a n = thF L a n := by
  unfold thF
  refine filterMap_same fun i hi => ?_
  rw [List.mem_range'_1] at hi
  rw [h i hi.1 hi.2]
theorem thF_one (L : List (Option Ent)) (i : Nat) : thF L i 1 = match atL L i with
    | none => []
    | some x => [(i, x)] := by
  unfold thF
  cases h : atL L i <;> simp [h]
theorem thL_split (L : List (Option Ent)) {i : Nat} (h : i < L.length) : thL L = thF L 0 i ++ (thF L i 1 ++ thF L (i + 1) (L.length - i - 1)) := by
  rw [thL_F, show L.length = i + (1 + (L.length - i - 1)) by omega, thF_add, thF_add, Nat.zero_add, show i + (1 + (L.length - i - 1)) - i - 1 = L.length - i - 1 by omega]
theorem thL_set (L : List (Option Ent)) {i : Nat} (h : i < L.length) (o : Option Ent) : thL (L.set i o) = thF L 0 i ++ ((match o with
    | none => []
    | some x => [(i, x)]) ++ thF L (i + 1) (L.length - i - 1)) := by
  rw [thL_split (L.set i o) (i := i) (by rw [List.length_set]; exact h), List.length_set, thF_one, atL_set h, if_pos rfl]
  rw [thF_congr (L := L) (L' := L.set i o) (a := 0) (n := i) fun j _ hj => by rw [atL_set h, if_neg (by omega)]]
  rw [thF_congr (L := L) (L' := L.set i o) (a := i + 1) fun j hj _ => by rw [atL_set h, if_neg (by omega)]]
theorem thL_snoc (L : List (Option Ent)) : thL (L ++ [none]) = thL L := by
  rw [thL_F, List.length_append, List.length_singleton, thF_add, Nat.zero_add, thF_one, atL_snoc, if_pos rfl, List.append_nil, thL_F]
  refine thF_congr fun i _ hi => ?_
  rw [atL_snoc, if_neg (by omega)]
/-- A thing of the list is what its number has. -/
theorem thL_here {L : List (Option Ent)} {i : Nat} {p : Nat × Ent} (h : (thL L)[i]? = some p) : atL L p.1 = some p.2 := mem_thL.1 (List.mem_of_getElem? h)
/-- Where a thing lies in the list. -/
theorem thL_at {L : List (Option Ent)} {i : Nat} {p : Nat × Ent} (h : (thL L)[i]? = some p) : i = (thF L 0 p.1).length ∧ p.1 < L.length := by
  have hx := thL_here h
  have hl := atL_lt hx
  refine ⟨?_, hl⟩
  rw [thL_split L hl, thF_one, hx] at h
  rcases Nat.lt_trichotomy i (thF L 0 p.1).length with h1 | h1 | h1
  · rw [List.getElem?_append_left h1] at h
    have := mem_thF (List.mem_of_getElem? h)
    omega
  · exact h1
  · rw [List.getElem?_append_right (by omega), List.getElem?_append_right (by simp; omega)] at h
    have := mem_thF (List.mem_of_getElem? h)
    omega
theorem thL_changed {L : List (Option Ent)} {i : Nat} {p : Nat × Ent} (h : (thL L)[i]? = some p) (y : Ent) : thL (L.set p.1 (some y)) = (thL L).set i (p.1, y) := by
  obtain ⟨e, hl⟩ := thL_at h
  rw [thL_set L hl, thL_split L hl, thF_one, thL_here h, List.set_append_right _ _ (by omega), e, Nat.sub_self]
  rfl
/-- Where a number is put. -/
def InsAt (T : List (Nat × Ent)) (id k : Nat) : Prop := k ≤ T.length ∧ (∀ j p, j < k → T[j]? = some p → p.1 < id) ∧ ∀ p, T[k]? = some p → ¬ p.1 < id
theorem ins_at {L : List (Option Ent)} {id k : Nat} (hl : id < L.length) (hn : atL L id = none) (h : InsAt (thL L) id k) : k = (thF L 0 id).length := by
  obtain ⟨hk, h1, h2⟩ := h
  have hs := thL_split L hl
  rw [thF_one, hn, List.nil_append] at hs
  rw [hs] at hk h1 h2
  rcases Nat.lt_trichotomy k (thF L 0 id).length with h3 | h3 | h3
  · have := h2 _ (by rw [List.getElem?_append_left h3]; exact List.getElem?_eq_getElem h3)
    have := mem_thF (List.getElem_mem h3)
    omega
  · exact h3
  · rw [List.length_append] at hk
    have h4 : 0 < (thF L (id + 1) (L.length - id - 1)).length := by omega
    have := h1 (thF L 0 id).length _ h3 (by rw [List.getElem?_append_right (Nat.le_refl _), Nat.sub_self]; exact List.getElem?_eq_getElem h4)
    have := mem_thF (List.getElem_mem h4)
    omega
theorem thL_insert {L : List (Option Ent)} {id k : Nat} (hl : id < L.length) (hn : atL L id = none) (h : InsAt (thL L) id k) (y : Ent) : thL (L.set id (some y)) = (thL L).take k ++ (id, y) :: (thL L).drop k := by
  have hk := ins_at hl hn h
  rw [thL_set L hl, thL_split L hl, thF_one, hn, List.nil_append, hk, List.take_left, List.drop_left]
  rfl
/-- The least number from 2 on that nothing has. -/
def LeastR (T : List (Nat × Ent)) (id : Nat) : Prop := 2 ≤ id ∧ (∀ p ∈ T, p.1 ≠ id) ∧ ∀ j, 2 ≤ j → j < id → ∃ p ∈ T, p.1 = j
theorem least_same {L : List (Option Ent)} {i id : Nat} (h : LeastA L i) (h' : LeastR (thL L) id) : id = i := by
  rcases Nat.lt_trichotomy id i with h1 | h1 | h1
  · cases hx : atL L id with
    | none => exact absurd hx (h.2.2.2 id h'.1 h1)
    | some x => exact absurd rfl (h'.2.1 (id, x) (mem_thL.2 hx))
  · exact h1
  · obtain ⟨⟨j, x⟩, hm, e⟩ := h'.2.2 i h.1 h1
    have := mem_thL.1 hm
    simp only at e
    subst e
    rw [h.2.1] at this
    cases this
def RSt.quo (R : RSt) (t : Nat) : Int := R.quota.getD t 0
def tookR (R : RSt) (t i : Nat) (p : Nat × Ent) : RSt := { R with T := R.T.set i (p.1, { p.2 with ma := p.2.ma ||| 2 ^ t }), since := R.since.set t (R.sn t ++ [p.1]) }
def addR (R : RSt) (t k id : Nat) (x : Ent) : RSt := { R with T := R.T.take k ++ (id, { x with ma := x.ma ||| 2 ^ t }) :: R.T.drop k, since := R.since.set t (R.sn t ++ [id]) }
def NoKey (T : List (Nat × Ent)) (k : AKey) : Prop := ∀ p ∈ T, p.2.key ≠ k
/-- What the document's give comes to. -/
def GaveR (R : RSt) (t : Nat) (k : AKey) (lv va : Int) (r e : Int) (R' : RSt) : Prop :=
  (∃ (i : Nat) (p : Nat × Ent), R.T[i]? = some p ∧ p.2.key = k ∧ p.2.ma.testBit t = true ∧ r = p.1 ∧ e = 0 ∧ R' = R) ∨
  (∃ (i : Nat) (p : Nat × Ent), R.T[i]? = some p ∧ p.2.key = k ∧ p.2.ma.testBit t = false ∧ R.quo t ≤ countR R.T t ∧ r = 0 ∧ e = 9 ∧ R' = R) ∨
  (∃ (i : Nat) (p : Nat × Ent), R.T[i]? = some p ∧ p.2.key = k ∧ p.2.ma.testBit t = false ∧ (countR R.T t : Int) < R.quo t ∧ r = p.1 ∧ e = 0 ∧ R' = tookR R t i p) ∨
  (NoKey R.T k ∧ R.quo t ≤ countR R.T t ∧ r = 0 ∧ e = 9 ∧ R' = R) ∨
  (NoKey R.T k ∧ (countR R.T t : Int) < R.quo t ∧ ∃ R1, R1 = (if R.room ≤ R.T.length then sweepR R else R) ∧
    ((R1.room ≤ R1.T.length ∧ r = 0 ∧ e = 5 ∧ R' = R1) ∨ (R1.T.length < R1.room ∧ ∃ id n, LeastR R1.T id ∧ InsAt R1.T id n ∧ r = id ∧ e = 0 ∧ R' = addR R1 t n id (entOf k lv va 0))))
theorem noKey_thL {L : List (Option Ent)} {k : AKey} : NoKey (thL L) k ↔ ∀ i x, ¬ HasKey L k i x := by
  constructor
  · intro h i x hk
    exact h (i, x) (mem_thL.2 hk.1) hk.2
  · rintro h ⟨i, x⟩ hm hk
    exact h i x ⟨mem_thL.1 hm, hk⟩
theorem Sim.sn {S : ArS} {R : RSt} (h : Sim S R) (t : Nat) : R.sn t = S.add t := by unfold RSt.sn ArS.add; rw [h.since]
theorem Sim.quo {S : ArS} {R : RSt} (h : Sim S R) (t : Nat) : R.quo t = S.quo t := by unfold RSt.quo ArS.quo; rw [h.quota]
theorem Sim.count {S : ArS} {R : RSt} (h : Sim S R) (t : Nat) : countR R.T t = countL S.L t := by rw [h.T, countR_thL]
theorem Sim.live {S : ArS} {R : RSt} (h : Sim S R) : R.T.length = liveL S.L := by rw [h.T, len_thL]
theorem roomA_L (S : ArS) (i : Nat) : thL (roomA S i).L = thL S.L := by
  unfold roomA
  simp only
  split
  · rfl
  · exact thL_snoc S.L
theorem Sim.added {S : ArS} {R : RSt} (h : Sim S R) {t n id : Nat} {k : AKey} {lv va : Int} (hi : LeastA S.L id) (hn : InsAt R.T id n) : Sim (newA S t id k lv va) (addR R t n id (entOf k lv va 0)) := by
  have hle := hi.2.2.1
  have hz := hi.2.1
  have hl : id < (roomA S id).L.length := by
    unfold roomA
    simp only
    split
    · assumption
    · rw [List.length_append, List.length_singleton]; omega
  have hz' : atL (roomA S id).L id = none := by
    unfold roomA
    simp only
    split
    · exact hz
    · rw [atL_snoc]; split <;> trivial
  have hn' := hn
  rw [h.T, ← roomA_L S id] at hn'
  have hS := h.since
  refine ⟨h.room, ?_, h.quota, ?_⟩
  · show R.T.take n ++ _ :: R.T.drop n = thL (((roomA S id).L.set id (some (entOf k lv va 0))).set id (some _))
    rw [List.set_set, thL_insert hl hz' hn', roomA_L, ← h.T]
  · show R.since.set t (R.sn t ++ [id]) = (S.added.set t (S.add t ++ [id]))
    rw [h.since, h.sn]
/-- Both give alike. -/
theorem gave_same {S S' : ArS} {R R' : RSt} {t : Nat} {k : AKey} {lv va r e r' e' : Int} (ok : ArOk S) (h : Sim S R) (hS : Gave S t k lv va r e S') (hR : GaveR R t k lv va r' e' R') : r = r' ∧ e = e' ∧ Sim S' R' := by
  have hcount := h.count t
  have hquo := h.quo t
  have find : ∀ (i : Nat) (p : Nat × Ent), R.T[i]? = some p → p.2.key = k → HasKey S.L k p.1 p.2 := fun i p hp hk => ⟨thL_here (i := i) (by rw [← h.T]; exact hp), hk⟩
  have one : ∀ {i j : Nat} {x y : Ent}, HasKey S.L k i x → HasKey S.L k j y → i = j ∧ x = y := fun {i j x y} hx hy => by
    have e := ok.uniq i j x y hx.1 hy.1 (hx.2.trans hy.2.symm)
    subst e
    have := hx.1.symm.trans hy.1
    exact ⟨rfl, Option.some.inj this⟩
  rcases hR with ⟨i, p, hp, hk, hb, rfl, rfl, rfl⟩ | ⟨i, p, hp, hk, hb, hq, rfl, rfl, rfl⟩ | ⟨i, p, hp, hk, hb, hq, rfl, rfl, rfl⟩ | ⟨hno, hq, rfl, rfl, rfl⟩ | ⟨hno, hq, R1, hR1, hR⟩
  · have hf := find i p hp hk
    rcases hS with ⟨j, x, hx, hb', rfl, rfl, rfl⟩ | ⟨hno', hq', rfl, rfl, rfl⟩ | ⟨j, x, hx, hb', hq', rfl, rfl, rfl⟩ | ⟨hno', hq', S1, hS1, hS⟩
    · obtain ⟨rfl, rfl⟩ := one hf hx
      exact ⟨rfl, rfl, h⟩
    · rw [hno' _ _ hf] at hb; cases hb
    · obtain ⟨rfl, rfl⟩ := one hf hx
      rw [hb] at hb'; cases hb'
    · exact absurd hf (hno' _ _)
  · have hf := find i p hp hk
    rcases hS with ⟨j, x, hx, hb', rfl, rfl, rfl⟩ | ⟨hno', hq', rfl, rfl, rfl⟩ | ⟨j, x, hx, hb', hq', rfl, rfl, rfl⟩ | ⟨hno', hq', S1, hS1, hS⟩
    · obtain ⟨rfl, rfl⟩ := one hf hx
      rw [hb] at hb'; cases hb'
    · exact ⟨rfl, rfl, h⟩
    · omega
    · exact absurd hf (hno' _ _)
  · have hf := find i p hp hk
    rcases hS with ⟨j, x, hx, hb', rfl, rfl, rfl⟩ | ⟨hno', hq', rfl, rfl, rfl⟩ | ⟨j, x, hx, hb', hq', rfl, rfl, rfl⟩ | ⟨hno', hq', S1, hS1, hS⟩
    · obtain ⟨rfl, rfl⟩ := one hf hx
      rw [hb] at hb'; cases hb'
    · omega
    · obtain ⟨rfl, rfl⟩ := one hf hx
      refine ⟨rfl, rfl, h.room, ?_, h.quota, ?_⟩
      · show R.T.set i (p.1, { p.2 with ma := p.2.ma ||| 2 ^ t }) = thL (S.L.set p.1 (some { p.2 with ma := p.2.ma ||| 2 ^ t }))
        rw [h.T] at hp
        rw [thL_changed hp, h.T]
      · show R.since.set t (R.sn t ++ [p.1]) = S.added.set t (S.add t ++ [p.1])
        rw [h.since, h.sn]
    · exact absurd hf (hno' _ _)
  all_goals
    have hno2 : ∀ i x, ¬ HasKey S.L k i x := noKey_thL.1 (by rw [← h.T]; exact hno)
  · rcases hS with ⟨j, x, hx, hb', rfl, rfl, rfl⟩ | ⟨hno', hq', rfl, rfl, rfl⟩ | ⟨j, x, hx, hb', hq', rfl, rfl, rfl⟩ | ⟨hno', hq', S1, hS1, hS⟩
    · exact absurd hx (hno2 _ _)
    · exact ⟨rfl, rfl, h⟩
    · exact absurd hx (hno2 _ _)
    · omega
  · rcases hS with ⟨j, x, hx, hb', rfl, rfl, rfl⟩ | ⟨hno', hq', rfl, rfl, rfl⟩ | ⟨j, x, hx, hb', hq', rfl, rfl, rfl⟩ | ⟨hno', hq', S1, hS1, hS⟩
    · exact absurd hx (hno2 _ _)
    · omega
    · exact absurd hx (hno2 _ _)
    · have h1 : Sim S1 R1 := by
        rw [hS1, hR1, h.live, h.room]
        split
        · exact h.swept
        · exact h
      have hl := h1.live
      have hr := h1.room
      rcases hS with ⟨hf, rfl, rfl, rfl⟩ | ⟨hf, i, hi, rfl, rfl, rfl⟩
      · rcases hR with ⟨hf', rfl, rfl, rfl⟩ | ⟨hf', id, n, hid, hn, rfl, rfl, rfl⟩
        · exact ⟨rfl, rfl, h1⟩
        · omega
      · rcases hR with ⟨hf', rfl, rfl, rfl⟩ | ⟨hf', id, n, hid, hn, rfl, rfl, rfl⟩
        · omega
        · rw [h1.T] at hid
          obtain rfl := least_same hi hid
          exact ⟨rfl, rfl, h1.added hi hn⟩
end Go.Proofs.Ytdmamecfmfhlmaa
