/-
  The document's things are what the arena's list holds, in order of numbers: plain lists; Both arenas answer alike: Level, Kids, Squares, Mark, Limit.
-/
import Derived.Test.YtdmamecfmfhlmaaZArenaPlaysReRecall
namespace Go.Proofs.Ytdmamecfmfhlmaa
set_option maxRecDepth 100000

/-- What lies under the first n numbers. -/
def thT (L : List (Option Ent)) (n : Nat) : List (Nat × Ent) := (List.range n).filterMap fun i => (atL L i).map fun x => (i, x)
def thL (L : List (Option Ent)) : List (Nat × Ent) := thT L L.length
theorem thT_succ (L : List (Option Ent)) (n : Nat) : thT L (n + 1) = thT L n ++ match atL L n with
    | none => []
    | some x => [(n, x)] := by
  unfold thT
  rw [List.range_succ, List.filterMap_append]
  cases h : atL L n <;> simp [h]
theorem mem_thL {L : List (Option Ent)} {i : Nat} {x : Ent} : (i, x) ∈ thL L ↔ atL L i = some x := by
  unfold thL thT
  rw [List.mem_filterMap]
  constructor
  · rintro ⟨k, _, hk⟩
    cases h : atL L k with
    | none => rw [h] at hk; cases hk
    | some y =>
      rw [h] at hk
      simp only [Option.map_some, Option.some.injEq, Prod.mk.injEq] at hk
      obtain ⟨rfl, rfl⟩ := hk
      exact h
  · intro h
    exact ⟨i, List.mem_range.2 (atL_lt h), by rw [h]; rfl⟩
theorem take_at {L : List (Option Ent)} {n : Nat} (h : n < L.length) : ∃ o, L[n]? = some o ∧ atL L n = o := by
  obtain ⟨o, ho⟩ : ∃ o, L[n]? = some o := ⟨_, List.getElem?_eq_getElem h⟩
  exact ⟨o, ho, by unfold atL; rw [ho]; rfl⟩
theorem countR_thT (L : List (Option Ent)) (t : Nat) : ∀ n, n ≤ L.length → countR (thT L n) t = countL (L.take n) t
  | 0, _ => rfl
  | n + 1, h => by
    obtain ⟨o, ho, hat⟩ := take_at (L := L) (n := n) (by omega)
    have ih := countR_thT L t n (by omega)
    unfold countR countL at ih ⊢
    rw [thT_succ, List.countP_append, ih, List.take_add_one, ho, hat, List.countP_append]
    cases o with
    | none => simp [mine]
    | some x => cases hb : x.ma.testBit t <;> simp [mine, hb]
theorem countR_thL (L : List (Option Ent)) (t : Nat) : countR (thL L) t = countL L t := by
  unfold thL
  rw [countR_thT L t _ (Nat.le_refl _), List.take_length]
theorem len_thT (L : List (Option Ent)) : ∀ n, n ≤ L.length → (thT L n).length = liveL (L.take n)
  | 0, _ => rfl
  | n + 1, h => by
    obtain ⟨o, ho, hat⟩ := take_at (L := L) (n := n) (by omega)
    have ih := len_thT L n (by omega)
    unfold liveL at ih ⊢
    rw [thT_succ, List.length_append, ih, List.take_add_one, ho, hat, List.countP_append]
    cases o <;> simp
theorem len_thL (L : List (Option Ent)) : (thL L).length = liveL L := by
  unfold thL
  rw [len_thT L _ (Nat.le_refl _), List.take_length]
theorem swept_here (L : List (Option Ent)) (i : Nat) : atL (sweptL L) i = match atL L i with
    | none => none
    | some x => if x.ma = 0 then none else some x := by
  unfold sweptL atL
  rw [List.getElem?_map]
  cases h : L[i]? with
  | none => rfl
  | some o => cases o <;> rfl
theorem sweptL_len (L : List (Option Ent)) : (sweptL L).length = L.length := by unfold sweptL; rw [List.length_map]
theorem swept_thT (L : List (Option Ent)) : ∀ n, thT (sweptL L) n = (thT L n).filter fun p => decide (p.2.ma ≠ 0)
  | 0 => rfl
  | n + 1 => by
    rw [thT_succ, thT_succ, List.filter_append, swept_thT L n, swept_here]
    cases h : atL L n with
    | none => simp
    | some x => by_cases hm : x.ma = 0 <;> simp [hm]
theorem sweepR_thL (L : List (Option Ent)) : (thL L).filter (fun p => decide (p.2.ma ≠ 0)) = thL (sweptL L) := by
  unfold thL
  rw [sweptL_len, swept_thT]
/-- The document's plain arena says the same as the program's. -/
structure Sim (S : ArS) (R : RSt) : Prop where
  room : R.room = S.room
  T : R.T = thL S.L
  quota : R.quota = S.quota
  since : R.since = S.added
theorem Sim.swept {S : ArS} {R : RSt} (h : Sim S R) : Sim (sweptA S) (sweepR R) := ⟨h.room, by show R.T.filter _ = thL (sweptL S.L); rw [h.T, sweepR_thL], h.quota, h.since⟩
theorem thN_thL (L : List (Option Ent)) (id : Int) : (thN (thL L) id).bind ((thL L)[·]?) = if 0 ≤ id then (atL L id.toNat).map fun x => (id.toNat, x) else none := by
  by_cases hp : ∃ p ∈ thL L, (p.1 : Int) = id
  · obtain ⟨⟨i, x⟩, hm, rfl⟩ := hp
    have hx := mem_thL.1 hm
    cases hn : thN (thL L) (i : Int) with
    | none =>
      unfold thN at hn
      rw [List.findIdx?_eq_none_iff] at hn
      have := hn _ hm
      simp at this
    | some j =>
      unfold thN at hn
      rw [List.findIdx?_eq_some_iff_getElem] at hn
      obtain ⟨hj, e, _⟩ := hn
      have e' : ((thL L)[j].1 : Int) = (i : Int) := of_decide_eq_true e
      have hmem : (thL L)[j] ∈ thL L := List.getElem_mem hj
      obtain ⟨y, hy⟩ : ∃ y, (thL L)[j] = (i, y) := ⟨(thL L)[j].2, Prod.ext (by show (thL L)[j].1 = i; omega) rfl⟩
      rw [hy] at hmem
      have hyx := mem_thL.1 hmem
      rw [hx] at hyx
      cases hyx
      rw [Option.bind_some, List.getElem?_eq_getElem hj, hy, if_pos (by omega), Int.toNat_natCast, hx]
      rfl
  · have hn : thN (thL L) id = none := by
      unfold thN
      rw [List.findIdx?_eq_none_iff]
      intro p hm
      exact decide_eq_false fun e => hp ⟨p, hm, e⟩
    rw [hn, Option.bind_none]
    by_cases h0 : 0 ≤ id
    · rw [if_pos h0]
      cases hx : atL L id.toNat with
      | none => rfl
      | some x => exact absurd ⟨(id.toNat, x), mem_thL.2 hx, by show ((id.toNat : Nat) : Int) = id; omega⟩ hp
    · rw [if_neg h0]
end Go.Proofs.Ytdmamecfmfhlmaa
namespace Go.Proofs.Ytdmamecfmfhlmaa
set_option maxRecDepth 100000

theorem ownR_thL {S : ArS} (ok : ArOk S) (t : Nat) (id kind : Int) : ownR (thL S.L) t id kind = if kind = 0 ∧ (id = 0 ∨ id = 1) then (noTh, true) else if ownsA S.L t id kind = true then ((id.toNat, (atL S.L id.toNat).getD zeroE), true) else (noTh, false) := by
  unfold ownR
  by_cases hb : kind = 0 ∧ (id = 0 ∨ id = 1)
  · rw [if_pos hb, if_pos hb]
  · rw [if_neg hb, if_neg hb, thN_thL]
    have e1 : (decide (kind = 0) && (decide (id = 0) || decide (id = 1))) = false := by
      by_cases hk : kind = 0
      · have h0 : ¬ id = 0 := fun e => hb ⟨hk, .inl e⟩
        have h1 : ¬ id = 1 := fun e => hb ⟨hk, .inr e⟩
        rw [decide_eq_false h0, decide_eq_false h1]; simp
      · rw [decide_eq_false hk]; rfl
    unfold ownsA
    rw [e1, Bool.false_or]
    by_cases h0 : 0 ≤ id
    · rw [if_pos h0]
      cases hx : atL S.L id.toNat with
      | none => simp
      | some x =>
        have h2 : 2 ≤ id := by
          rcases (show id = 0 ∨ id = 1 ∨ 2 ≤ id by omega) with h | h | h
          · rw [h] at hx; have := ok.nil0; rw [show ((0 : Int)).toNat = 0 from rfl, this] at hx; cases hx
          · rw [h] at hx; have := ok.nil1; rw [show ((1 : Int)).toNat = 1 from rfl, this] at hx; cases hx
          · exact h
        rw [decide_eq_true h2, Bool.true_and]
        simp only [Option.map_some, Option.getD_some, Bool.and_eq_true, decide_eq_true_eq]
    · rw [if_neg h0, decide_eq_false (show ¬ 2 ≤ id by omega)]
      simp
theorem level_same {S : ArS} {R : RSt} (ok : ArOk S) (h : Sim S R) (t id : Int) : levelR R t id = levelA S t id := by
  unfold levelR levelA
  rw [h.T, ownR_thL ok]
  by_cases ht : tenB t = true
  · rw [if_pos ht, ht, Bool.true_and]
    by_cases hb : (0 : Int) = 0 ∧ (id = 0 ∨ id = 1)
    · rw [if_pos hb, ownsA_base hb.2]
      have e : lvA S.L id = 0 := by
        unfold lvA
        rcases hb.2 with rfl | rfl
        · rw [show ((0 : Int)).toNat = 0 from rfl, ok.nil0]
        · rw [show ((1 : Int)).toNat = 1 from rfl, ok.nil1]
      simp [e, noTh, zeroE]
    · rw [if_neg hb]
      by_cases ho : ownsA S.L t.toNat id 0 = true
      · rw [if_pos ho, ho]
        unfold lvA
        cases atL S.L id.toNat <;> simp [zeroE]
      · rw [if_neg ho]
        have : ownsA S.L t.toNat id 0 = false := by simpa using ho
        simp [this]
  · have : tenB t = false := by simpa using ht
    simp [this]
theorem kids_same {S : ArS} {R : RSt} (ok : ArOk S) (h : Sim S R) (t id : Int) : kidsR R t id = kidsA S t id := by
  unfold kidsR kidsA
  rw [h.T, ownR_thL ok]
  by_cases h2 : 2 ≤ id
  · have hb : ¬ ((0 : Int) = 0 ∧ (id = 0 ∨ id = 1)) := fun e => by omega
    rw [if_neg hb, decide_eq_true h2, Bool.true_and]
    by_cases ht : tenB t = true
    · rw [if_pos ⟨ht, by omega⟩, ht, Bool.true_and]
      by_cases ho : ownsA S.L t.toNat id 0 = true
      · rw [if_pos ho, ho]
        obtain ⟨x, hx, _⟩ := owns_here h2 ho
        rw [hx]
        simp
      · rw [if_neg ho]
        have : ownsA S.L t.toNat id 0 = false := by simpa using ho
        simp [this]
    · rw [if_neg (fun e => ht e.1)]
      have : tenB t = false := by simpa using ht
      simp [this]
  · rw [if_neg (fun e => h2 (by omega)), decide_eq_false h2]
    simp
theorem squares_thT {S : ArS} (ok : ArOk S) : ∀ n, (thT S.L (n + 2)).filter (fun p => decide (p.2.k = 0)) = sqTo S.L (n + 2)
  | 0 => by
    have e : thT S.L 2 = [] := by
      rw [show (2 : Nat) = 1 + 1 from rfl, thT_succ, ok.nil1, show (1 : Nat) = 0 + 1 from rfl, thT_succ, ok.nil0]
      rfl
    rw [Nat.zero_add, e]
    rfl
  | n + 1 => by
    rw [show n + 1 + 2 = (n + 2) + 1 by omega, thT_succ, List.filter_append, squares_thT ok n, sqTo_snoc (L := S.L) (k := n + 2) (by omega)]
    refine congrArg (sqTo S.L (n + 2) ++ ·) ?_
    unfold sqAt
    cases hx : atL S.L (n + 2) with
    | none => rfl
    | some x => by_cases hk : x.k = 0 <;> simp [hk]
theorem squares_same {S : ArS} {R : RSt} (ok : ArOk S) (h : Sim S R) : squaresR R = squaresA S := by
  unfold squaresR squaresA
  rw [h.T]
  obtain ⟨n, hn⟩ : ∃ n, S.L.length = n + 2 := ⟨S.L.length - 2, by have := ok.two; omega⟩
  unfold thL
  rw [hn, squares_thT ok]
theorem Sim.marked {S : ArS} {R : RSt} (h : Sim S R) (t : Nat) : Sim (markA S t) (markR R t) := ⟨h.room, h.T, h.quota, by show R.since.set t [] = _; rw [h.since]; rfl⟩
theorem Sim.limited {S : ArS} {R : RSt} (h : Sim S R) (t : Nat) (n : Int) : Sim (limitA S t n) (limitR R t n) := ⟨h.room, h.T, by show R.quota.set t n = _; rw [h.quota]; rfl, h.since⟩
theorem isNote_iff {t : Nat} {sq rule j : Int} {p : Nat × Ent} : isNote t sq rule j p = true ↔ p.2.key = (1, sq, rule, j, 0) ∧ p.2.ma.testBit t = true := by
  unfold isNote Ent.key
  simp only [Bool.and_eq_true, decide_eq_true_eq, Prod.mk.injEq]
theorem recall_same {S : ArS} {R : RSt} (ok : ArOk S) (h : Sim S R) (t sq rule j : Int) : recallR R t sq rule j = recallA S t sq rule j := by
  unfold recallR recallA
  by_cases ht : tenB t = true
  · rw [if_pos ht, if_pos ht, h.T]
    have none_of : (∀ i x, atL S.L i = some x → x.key = (1, sq, rule, j, 0) → x.ma.testBit t.toNat = false) → (thL S.L).find? (isNote t.toNat sq rule j) = none := fun hn => by
      rw [List.find?_eq_none]
      rintro ⟨i, x⟩ hm hi
      obtain ⟨h1, h2⟩ := isNote_iff.1 hi
      have := hn i x (mem_thL.1 hm) h1
      rw [show x.ma.testBit t.toNat = true from h2] at this
      cases this
    cases hf : findK S.L (1, sq, rule, j, 0) with
    | none =>
      rw [none_of fun i x hx hk => absurd ⟨hx, hk⟩ (findK_none hf i x)]
    | some i =>
      obtain ⟨x, hx, hk⟩ := (findK_iff ok).1 hf
      simp only [hx]
      by_cases hb : x.ma.testBit t.toNat = true
      · rw [if_pos hb]
        cases hp : (thL S.L).find? (isNote t.toNat sq rule j) with
        | none =>
          rw [List.find?_eq_none] at hp
          exact absurd (isNote_iff.2 ⟨hk, hb⟩) (hp (i, x) (mem_thL.2 hx))
        | some p =>
          obtain ⟨i', x'⟩ := p
          have h1 := List.mem_of_find?_eq_some hp
          have h2 := List.find?_some hp
          obtain ⟨k1, k2⟩ := isNote_iff.1 h2
          have hx' := mem_thL.1 h1
          have := ok.uniq i' i x' x hx' hx (by rw [hk]; exact k1)
          subst this
          rw [hx] at hx'
          cases hx'
          rfl
      · rw [if_neg hb, none_of fun i' x' hx' hk' => by
          have := ok.uniq i' i x' x hx' hx (by rw [hk, hk'])
          subst this
          rw [hx] at hx'
          cases hx'
          simpa using hb]
  · rw [if_neg ht, if_neg ht]
end Go.Proofs.Ytdmamecfmfhlmaa
