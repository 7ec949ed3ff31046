/-
  What the arena keeps true beside its form: whose parts are whose; and that both arenas lose alike: plain lists.
-/
import Derived.Test.YtdmamecfmfhlmaaZArenaPlaysReGiveMath
import Derived.Test.YtdmamecfmfhlmaaZArenaPlaysArJoin
import Derived.Test.YtdmamecfmfhlmaaZArenaPlaysArNote
namespace Go.Proofs.Ytdmamecfmfhlmaa
set_option maxRecDepth 100000

/-- A thing without a tenant. -/
def lostE (t : Nat) (x : Ent) : Ent := if x.ma.testBit t = true then { x with ma := x.ma ^^^ 2 ^ t } else x
theorem lostE_bit (t : Nat) (x : Ent) : (lostE t x).ma.testBit t = false := by
  unfold lostE
  by_cases h : x.ma.testBit t = true
  · rw [if_pos h]; exact xor_same h
  · rw [if_neg h]; simpa using h
theorem lostE_other {t s : Nat} (h : s ≠ t) (x : Ent) : (lostE t x).ma.testBit s = x.ma.testBit s := by
  unfold lostE
  by_cases hb : x.ma.testBit t = true
  · rw [if_pos hb]; exact xor_other h
  · rw [if_neg hb]
theorem lostE_twice (t : Nat) (x : Ent) : lostE t (lostE t x) = lostE t x := by
  rw [show lostE t (lostE t x) = if (lostE t x).ma.testBit t = true then { lostE t x with ma := (lostE t x).ma ^^^ 2 ^ t } else lostE t x from rfl, lostE_bit, if_neg (by decide)]
theorem lostE_k (t : Nat) (x : Ent) : (lostE t x).k = x.k ∧ (lostE t x).a = x.a ∧ (lostE t x).b = x.b ∧ (lostE t x).c = x.c ∧ (lostE t x).d = x.d := by
  unfold lostE
  split <;> exact ⟨rfl, rfl, rfl, rfl, rfl⟩
theorem loseA_at (S : ArS) (t i j : Nat) : atL (loseA S t i).L j = if i = j then (atL S.L j).map (lostE t) else atL S.L j := by
  unfold loseA
  cases hx : atL S.L i with
  | none =>
    by_cases e : i = j
    · subst e; rw [if_pos rfl, hx]; rfl
    · rw [if_neg e]
  | some x =>
    by_cases hb : x.ma.testBit t = true
    · simp only [if_pos hb, atL_set (atL_lt hx)]
      by_cases e : i = j
      · subst e
        rw [if_pos rfl, if_pos rfl, hx]
        unfold lostE
        rw [Option.map_some, if_pos hb]
      · rw [if_neg e, if_neg e]
    · simp only [if_neg hb]
      by_cases e : i = j
      · subst e
        rw [if_pos rfl, hx]
        unfold lostE
        rw [Option.map_some, if_neg hb]
      · rw [if_neg e]
theorem loseN_at (t j : Nat) : ∀ (l : List Nat) (S : ArS), atL (loseN t l S).L j = if j ∈ l then (atL S.L j).map (lostE t) else atL S.L j
  | [], S => by simp [loseN]
  | i :: l, S => by
    show atL (loseN t l (loseA S t i)).L j = _
    rw [loseN_at t j l, loseA_at]
    by_cases h1 : j ∈ l
    · rw [if_pos h1, if_pos (List.mem_cons_of_mem _ h1)]
      by_cases h2 : i = j
      · rw [if_pos h2, Option.map_map]
        congr 1
        funext x
        exact lostE_twice t x
      · rw [if_neg h2]
    · rw [if_neg h1]
      by_cases h2 : i = j
      · subst h2; rw [if_pos rfl, if_pos List.mem_cons_self]
      · rw [if_neg h2, if_neg]
        intro h
        rcases List.mem_cons.1 h with h | h
        · exact h2 h.symm
        · exact h1 h
theorem loseA_rest (S : ArS) (t i : Nat) : (loseA S t i).room = S.room ∧ (loseA S t i).quota = S.quota ∧ (loseA S t i).added = S.added := by
  unfold loseA
  split
  · exact ⟨rfl, rfl, rfl⟩
  · split <;> exact ⟨rfl, rfl, rfl⟩
theorem loseN_rest (t : Nat) : ∀ (l : List Nat) (S : ArS), (loseN t l S).room = S.room ∧ (loseN t l S).quota = S.quota ∧ (loseN t l S).added = S.added
  | [], _ => ⟨rfl, rfl, rfl⟩
  | i :: l, S => by
    obtain ⟨h1, h2, h3⟩ := loseN_rest t l (loseA S t i)
    obtain ⟨g1, g2, g3⟩ := loseA_rest S t i
    exact ⟨h1.trans g1, h2.trans g2, h3.trans g3⟩
theorem thL_map {L L' : List (Option Ent)} {g : Nat → Ent → Ent} (hl : L'.length = L.length) (h : ∀ i, atL L' i = (atL L i).map (g i)) : thL L' = (thL L).map fun p => (p.1, g p.1 p.2) := by
  rw [thL_F, thL_F, hl]
  unfold thF
  rw [List.map_filterMap]
  refine filterMap_same fun i _ => ?_
  rw [h]
  cases atL L i <;> rfl
/-- What the document's lose comes to. -/
def lostP (t : Nat) (f : Nat × Ent → Bool) (p : Nat × Ent) : Nat × Ent := if (p.2.ma.testBit t && f p) = true then (p.1, { p.2 with ma := p.2.ma ^^^ 2 ^ t }) else p
def loseR (R : RSt) (t : Nat) (f : Nat × Ent → Bool) : RSt := { R with T := R.T.map (lostP t f), since := R.since.set t [] }
def lostN (T : List (Nat × Ent)) (t : Nat) (f : Nat × Ent → Bool) : Nat := T.countP fun p => p.2.ma.testBit t && f p
theorem lostP_bit (t : Nat) (f : Nat × Ent → Bool) (p : Nat × Ent) : (lostP t f p).2.ma.testBit t = (p.2.ma.testBit t && !f p) := by
  unfold lostP
  cases hb : p.2.ma.testBit t
  · simp [hb]
  · cases hf : f p
    · simp [hb]
    · simp [xor_same hb]
theorem count_lostP (t : Nat) (f : Nat × Ent → Bool) : ∀ T : List (Nat × Ent), countR (T.map (lostP t f)) t + lostN T t f = countR T t
  | [] => rfl
  | p :: T => by
    have ih := count_lostP t f T
    have h1 : countR ((p :: T).map (lostP t f)) t = countR (T.map (lostP t f)) t + if (p.2.ma.testBit t && !f p) = true then 1 else 0 := by
      unfold countR
      rw [List.map_cons, List.countP_cons, lostP_bit]
    have h2 : lostN (p :: T) t f = lostN T t f + if (p.2.ma.testBit t && f p) = true then 1 else 0 := by
      unfold lostN
      rw [List.countP_cons]
    have h3 : countR (p :: T) t = countR T t + if p.2.ma.testBit t = true then 1 else 0 := by
      unfold countR
      rw [List.countP_cons]
    rw [h1, h2, h3]
    cases p.2.ma.testBit t <;> cases f p <;> simp <;> omega
theorem lose_same {S : ArS} {R : RSt} (h : Sim S R) (t : Nat) (l : List Nat) (f : Nat × Ent → Bool) (hf : ∀ i x, atL S.L i = some x → x.ma.testBit t = true → (i ∈ l ↔ f (i, x) = true)) :
    Sim (loseN t l (markA S t)) (loseR R t f) ∧ countL (loseN t l (markA S t)).L t + lostN R.T t f = countL S.L t := by
  obtain ⟨r1, r2, r3⟩ := loseN_rest t l (markA S t)
  have hT : (loseR R t f).T = thL (loseN t l (markA S t)).L := by
    show R.T.map (lostP t f) = _
    rw [thL_map (L := S.L) (g := fun i x => if i ∈ l then lostE t x else x) (by rw [loseN_len]; rfl) fun i => by
      rw [loseN_at]
      show (if i ∈ l then (atL S.L i).map (lostE t) else atL S.L i) = _
      split
      · rfl
      · cases atL S.L i <;> rfl, h.T]
    refine List.map_congr_left fun p hp => ?_
    obtain ⟨i, x⟩ := p
    have hx := mem_thL.1 hp
    unfold lostP lostE
    cases hb : x.ma.testBit t with
    | false => simp
    | true =>
      have := hf i x hx hb
      cases hfx : f (i, x) with
      | false =>
        rw [hfx] at this
        have hn : i ∉ l := fun e => by have := this.1 e; cases this
        simp [hn]
      | true =>
        have hm : i ∈ l := this.2 hfx
        simp [hm]
  refine ⟨⟨h.room.trans r1.symm, hT, h.quota.trans r2.symm, ?_⟩, ?_⟩
  · show R.since.set t [] = _
    rw [r3, h.since]; rfl
  · rw [← countR_thL, ← hT, ← countR_thL S.L, ← h.T]
    exact count_lostP t f R.T
/-- A square of a tenant. -/
def OwnSq (S : ArS) (t i : Nat) (x : Ent) : Prop := atL S.L i = some x ∧ x.k = 0 ∧ x.ma.testBit t = true
def Ent.parts (x : Ent) : List Int := [x.a, x.b, x.c, x.d]
/-- What a tenant was given is there; what it has has its parts; parts that are new are parts of what is new. -/
structure Inv (S : ArS) : Prop where
  add : ∀ t, ∀ i ∈ S.add t, i < S.L.length
  part : ∀ t i x, OwnSq S t i x → ∀ c ∈ x.parts, ownsA S.L t c 0 = true
  fresh : ∀ t i x, OwnSq S t i x → ∀ c ∈ x.parts, ∀ j ∈ S.add t, (j : Int) = c → i ∈ S.add t
theorem owns_iff {L : List (Option Ent)} {t : Nat} {c : Int} : ownsA L t c 0 = true ↔ (c = 0 ∨ c = 1) ∨ (2 ≤ c ∧ ∃ x, atL L c.toNat = some x ∧ x.k = 0 ∧ x.ma.testBit t = true) := by
  unfold ownsA
  constructor
  · intro h
    simp only [Bool.or_eq_true, Bool.and_eq_true, decide_eq_true_eq] at h
    rcases h with h | ⟨h2, h⟩
    · exact .inl h.2
    · cases hx : atL L c.toNat with
      | none => rw [hx] at h; cases h
      | some x =>
        rw [hx] at h
        simp only [Bool.and_eq_true, decide_eq_true_eq] at h
        exact .inr ⟨h2, x, rfl, h.1, h.2⟩
  · rintro (h | ⟨h2, x, hx, hk, hb⟩)
    · rcases h with rfl | rfl <;> rfl
    · rw [hx]
      simp [h2, hk, hb]
theorem owns_mono {L L' : List (Option Ent)} {t : Nat} {c : Int} (h : ownsA L t c 0 = true) (hm : 2 ≤ c → ∀ x, atL L c.toNat = some x → x.k = 0 → x.ma.testBit t = true → ∃ x', atL L' c.toNat = some x' ∧ x'.k = 0 ∧ x'.ma.testBit t = true) : ownsA L' t c 0 = true := by
  rw [owns_iff] at h ⊢
  rcases h with h | ⟨h2, x, hx, hk, hb⟩
  · exact .inl h
  · exact .inr ⟨h2, hm h2 x hx hk hb⟩
theorem or_bit_same (m t : Nat) : (m ||| 2 ^ t).testBit t = true := by
  rw [Nat.testBit_or, Nat.testBit_two_pow]; simp
theorem or_bit_other {m t s : Nat} (h : s ≠ t) : (m ||| 2 ^ t).testBit s = m.testBit s := by
  rw [Nat.testBit_or, Nat.testBit_two_pow]
  simp [Ne.symm h]
theorem bit_ne {m t : Nat} (h : m.testBit t = true) : m ≠ 0 := by
  intro e
  subst e
  rw [Nat.zero_testBit] at h
  cases h
/-- The same things for every tenant's squares, and the same new ones. -/
theorem Inv.same {S S' : ArS} (h : Inv S) (hl : S.L.length ≤ S'.L.length) (ha : ∀ t, S'.add t = S.add t) (h1 : ∀ t i x, OwnSq S' t i x → OwnSq S t i x) (h2 : ∀ t i x, OwnSq S t i x → OwnSq S' t i x) : Inv S' := by
  refine ⟨fun t i hi => Nat.lt_of_lt_of_le (h.add t i (by rw [← ha]; exact hi)) hl, fun t i x hx c hc => ?_, fun t i x hx c hc j hj e => ?_⟩
  · refine owns_mono (h.part t i x (h1 t i x hx) c hc) fun _ y hy hk hb => ?_
    obtain ⟨g1, g2, g3⟩ := h2 t c.toNat y ⟨hy, hk, hb⟩
    exact ⟨y, g1, g2, g3⟩
  · rw [ha] at hj ⊢
    exact h.fresh t i x (h1 t i x hx) c hc j hj e
theorem Inv.limited {S : ArS} (h : Inv S) (t : Nat) (n : Int) : Inv (limitA S t n) := h.same (Nat.le_refl _) (fun _ => rfl) (fun _ _ _ h => h) (fun _ _ _ h => h)
theorem Inv.swept {S : ArS} (h : Inv S) : Inv (sweptA S) := by
  refine h.same (by show S.L.length ≤ (sweptL S.L).length; rw [sweptL_len]; exact Nat.le_refl _) (fun _ => rfl) (fun t i x hx => ?_) (fun t i x hx => ?_)
  · obtain ⟨h1, h2, h3⟩ := hx
    have h1' : atL (sweptL S.L) i = some x := h1
    rw [swept_here] at h1'
    cases hy : atL S.L i with
    | none => rw [hy] at h1'; cases h1'
    | some y =>
      rw [hy] at h1'
      simp only at h1'
      split at h1'
      · cases h1'
      · cases h1'
        exact ⟨hy, h2, h3⟩
  · obtain ⟨h1, h2, h3⟩ := hx
    refine ⟨?_, h2, h3⟩
    show atL (sweptL S.L) i = some x
    rw [swept_here, h1]
    simp only
    rw [if_neg (bit_ne h3)]
theorem mark_add {S : ArS} (h : S.added.length = 64) {t : Nat} (s : Nat) : (markA S t).add s = if s = t ∧ t < 64 then [] else S.add s := by
  unfold markA ArS.add
  simp only [List.getD_eq_getElem?_getD, List.getElem?_set]
  by_cases e : t = s
  · subst e
    rw [if_pos rfl]
    by_cases h2 : t < 64
    · rw [if_pos (by omega), if_pos ⟨rfl, h2⟩]; rfl
    · rw [if_neg (by omega), if_neg (fun e => h2 e.2), List.getElem?_eq_none (by omega)]
  · rw [if_neg e, if_neg (fun h => e h.1.symm)]
theorem Inv.marked {S : ArS} (h : Inv S) (hS : S.added.length = 64) (t : Nat) : Inv (markA S t) := by
  refine ⟨fun s i hi => ?_, fun s i x hx c hc => h.part s i x hx c hc, fun s i x hx c hc j hj e => ?_⟩
  · rw [mark_add hS] at hi
    split at hi
    · cases hi
    · exact h.add s i hi
  · rw [mark_add hS] at hj ⊢
    split at hj
    · cases hj
    · next hn => rw [if_neg hn]; exact h.fresh s i x hx c hc j hj e
theorem set_add {S : ArS} {L : List (Option Ent)} {t : Nat} (l : List Nat) (s : Nat) : ({ S with L := L, added := S.added.set t l } : ArS).add s = if s = t ∧ t < S.added.length then l else S.add s := by
  unfold ArS.add
  simp only [List.getD_eq_getElem?_getD, List.getElem?_set]
  by_cases e : t = s
  · subst e
    rw [if_pos rfl]
    by_cases h2 : t < S.added.length
    · rw [if_pos h2, if_pos ⟨rfl, h2⟩]; rfl
    · rw [if_neg h2, if_neg (fun e => h2 e.2), List.getElem?_eq_none (by omega)]
  · rw [if_neg e, if_neg (fun h => e h.1.symm)]
/-- Something becomes a tenant's own that was not: a thing that is there, or a new one. -/
theorem Inv.gets {S S' : ArS} (h : Inv S) {t i : Nat} (h2i : 2 ≤ i) {y : Ent} (hl : S.L.length ≤ S'.L.length) (hi : i < S'.L.length) (hadd : ∀ s, S'.add s = if s = t then S.add t ++ [i] else S.add s)
    (h0 : ∀ j, j ≠ i → atL S'.L j = atL S.L j) (h1 : atL S'.L i = some y) (hno : ∀ x, ¬ OwnSq S t i x) (hold : ∀ s, s ≠ t → ∀ x, OwnSq S s i x → y.k = 0 ∧ y.ma.testBit s = true ∧ y.parts = x.parts) (hnew : ∀ s, s ≠ t → y.k = 0 → y.ma.testBit s = true → ∃ x, OwnSq S s i x)
    (hp : y.k = 0 → ∀ c ∈ y.parts, ownsA S.L t c 0 = true) : Inv S' := by
  have mono : ∀ (s : Nat) (c : Int), ownsA S.L s c 0 = true → ownsA S'.L s c 0 = true := fun s c ho => by
    refine owns_mono ho fun h2 x hx hk hb => ?_
    by_cases e : c.toNat = i
    · rw [e] at hx ⊢
      by_cases es : s = t
      · subst es; exact absurd ⟨hx, hk, hb⟩ (hno x)
      · obtain ⟨g1, g2, _⟩ := hold s es x ⟨hx, hk, hb⟩
        exact ⟨y, h1, g1, g2⟩
    · exact ⟨x, by rw [h0 _ e]; exact hx, hk, hb⟩
  have notI : ∀ c : Int, ownsA S.L t c 0 = true → (i : Int) = c → c = 0 ∨ c = 1 := fun c ho e => by
    rcases owns_iff.1 ho with ho | ⟨h2, x, hx, hk, hb⟩
    · exact ho
    · subst e
      rw [Int.toNat_natCast] at hx
      exact absurd ⟨hx, hk, hb⟩ (hno x)
  have back : ∀ s j x, OwnSq S' s j x → (j ≠ i ∧ OwnSq S s j x) ∨ (j = i ∧ x = y) := fun s j x hx => by
    by_cases e : j = i
    · subst e
      have := hx.1.symm.trans h1
      exact .inr ⟨rfl, Option.some.inj this⟩
    · exact .inl ⟨e, by rw [← h0 _ e]; exact hx.1, hx.2⟩
  have all : ∀ s j x, OwnSq S' s j x → (s = t ∧ j = i ∧ x = y) ∨ ∃ x', OwnSq S s j x' ∧ x'.parts = x.parts := fun s j x hx => by
    rcases back s j x hx with ⟨_, h3⟩ | ⟨rfl, rfl⟩
    · exact .inr ⟨x, h3, rfl⟩
    · by_cases es : s = t
      · exact .inl ⟨es, rfl, rfl⟩
      · obtain ⟨x', hx'⟩ := hnew s es hx.2.1 hx.2.2
        exact .inr ⟨x', hx', (hold s es x' hx').2.2.symm⟩
  refine ⟨fun s j hj => ?_, fun s j x hx c hc => ?_, fun s j x hx c hc m hm e => ?_⟩
  · rw [hadd] at hj
    split at hj
    · rcases List.mem_append.1 hj with hj | hj
      · exact Nat.lt_of_lt_of_le (h.add _ _ hj) hl
      · obtain rfl : j = i := by simpa using hj
        exact hi
    · exact Nat.lt_of_lt_of_le (h.add _ _ hj) hl
  · rcases all s j x hx with ⟨rfl, rfl, rfl⟩ | ⟨x', hx', e⟩
    · exact mono _ _ (hp hx.2.1 c hc)
    · exact mono _ _ (h.part s j x' hx' c (by rw [e]; exact hc))
  · rw [hadd] at hm ⊢
    rcases all s j x hx with ⟨rfl, rfl, rfl⟩ | ⟨x', hx', e'⟩
    · rw [if_pos rfl]; simp
    · by_cases es : s = t
      · subst es
        rw [if_pos rfl] at hm ⊢
        rcases List.mem_append.1 hm with hm | hm
        · exact List.mem_append_left _ (h.fresh s j x' hx' c (by rw [e']; exact hc) m hm e)
        · obtain rfl : m = i := by simpa using hm
          have ho := h.part s j x' hx' c (by rw [e']; exact hc)
          rcases notI c ho e with h3 | h3 <;> omega
      · rw [if_neg es] at hm ⊢
        exact h.fresh s j x' hx' c (by rw [e']; exact hc) m hm e
theorem take_add {S : ArS} (hS : S.added.length = 64) {t : Nat} (ht : t < 64) (L : List (Option Ent)) (i s : Nat) : ({ S with L := L, added := S.added.set t (S.add t ++ [i]) } : ArS).add s = if s = t then S.add t ++ [i] else S.add s := by
  rw [set_add]
  by_cases e : s = t
  · rw [if_pos ⟨e, by omega⟩, if_pos e]
  · rw [if_neg (fun h => e h.1), if_neg e]
theorem two_of {S : ArS} (ok : ArOk S) {i : Nat} {x : Ent} (hx : atL S.L i = some x) : 2 ≤ i := by
  rcases (show i = 0 ∨ i = 1 ∨ 2 ≤ i by omega) with rfl | rfl | h
  · rw [ok.nil0] at hx; cases hx
  · rw [ok.nil1] at hx; cases hx
  · exact h
theorem Inv.took {S : ArS} (h : Inv S) (ok : ArOk S) {t i : Nat} {x : Ent} (ht : t < 64) (hx : atL S.L i = some x) (hb : x.ma.testBit t = false) (hp : x.k = 0 → ∀ c ∈ x.parts, ownsA S.L t c 0 = true) : Inv (takeA S t i x) := by
  have hl := atL_lt hx
  refine h.gets (t := t) (i := i) (two_of ok hx) (y := { x with ma := x.ma ||| 2 ^ t }) (by show S.L.length ≤ (S.L.set i _).length; rw [List.length_set]; exact Nat.le_refl _) (by show i < (S.L.set i _).length; rw [List.length_set]; exact hl) (take_add ok.added ht _ i) (fun j hj => ?_) ?_ (fun z hz => ?_) (fun s hs z hz => ?_) (fun s hs hk hb' => ?_) hp
  · show atL (S.L.set i _) j = _
    rw [atL_set hl, if_neg (fun e => hj e.symm)]
  · show atL (S.L.set i _) i = _
    rw [atL_set hl, if_pos rfl]
  · have := hx.symm.trans hz.1
    obtain rfl := Option.some.inj this
    have := hz.2.2
    rw [hb] at this
    cases this
  · have := hx.symm.trans hz.1
    obtain rfl := Option.some.inj this
    exact ⟨hz.2.1, by rw [or_bit_other hs]; exact hz.2.2, rfl⟩
  · exact ⟨x, hx, hk, by rw [← or_bit_other hs]; exact hb'⟩
theorem room_len {S : ArS} {i : Nat} (h : i ≤ S.L.length) : i < (roomA S i).L.length ∧ S.L.length ≤ (roomA S i).L.length := by
  unfold roomA
  simp only
  split
  · exact ⟨by assumption, Nat.le_refl _⟩
  · rw [List.length_append, List.length_singleton]; omega
theorem Inv.new {S : ArS} (h : Inv S) (ok : ArOk S) {t i : Nat} {k : AKey} {lv va : Int} (ht : t < 64) (hi : LeastA S.L i) (hp : k.1 = 0 → ∀ c ∈ (entOf k lv va 0).parts, ownsA S.L t c 0 = true) : Inv (newA S t i k lv va) := by
  obtain ⟨h2, hz, hle, _⟩ := hi
  obtain ⟨r1, r2⟩ := room_len hle
  have hL : (newA S t i k lv va).L = (roomA S i).L.set i (some { entOf k lv va 0 with ma := 0 ||| 2 ^ t }) := by
    show ((roomA S i).L.set i _).set i _ = _
    rw [List.set_set]
    rfl
  have hnone : ∀ x s, ¬ OwnSq S s i x := fun x s hx => by
    have := hx.1
    rw [hz] at this
    cases this
  refine h.gets (t := t) (i := i) h2 (y := { entOf k lv va 0 with ma := 0 ||| 2 ^ t }) (by rw [hL, List.length_set]; exact r2) (by rw [hL, List.length_set]; exact r1) (fun s => ?_) (fun j hj => ?_) ?_ (fun z hz => hnone z _ hz) (fun s hs z hz => absurd hz (hnone z _)) (fun s hs _ hb' => ?_) hp
  · exact take_add (S := S) ok.added ht _ i s
  · rw [hL, atL_set r1, if_neg (fun e => hj e.symm), room_at]
  · rw [hL, atL_set r1, if_pos rfl]
  · rw [or_bit_other hs, Nat.zero_testBit] at hb'
    cases hb'
/-- Some of a tenant's things are lost: no part of what it keeps. -/
theorem Inv.lost {S : ArS} (h : Inv S) (hS : S.added.length = 64) {t : Nat} (ht : t < 64) (l : List Nat) (hl : ∀ i x, OwnSq S t i x → i ∉ l → ∀ c ∈ x.parts, ∀ j ∈ l, (j : Int) = c → False) : Inv (loseN t l (markA S t)) := by
  have hadd : ∀ s, (loseN t l (markA S t)).add s = if s = t then [] else S.add s := fun s => by
    rw [loseN_add, mark_add hS]
    by_cases e : s = t
    · rw [if_pos ⟨e, ht⟩, if_pos e]
    · rw [if_neg (fun h => e h.1), if_neg e]
  have hat : ∀ j, atL (loseN t l (markA S t)).L j = if j ∈ l then (atL S.L j).map (lostE t) else atL S.L j := fun j => loseN_at t j l (markA S t)
  have back : ∀ s i x, OwnSq (loseN t l (markA S t)) s i x → (s = t ∧ i ∉ l ∧ OwnSq S s i x) ∨ (s ≠ t ∧ ∃ x', OwnSq S s i x' ∧ x'.parts = x.parts) := fun s i x hx => by
    obtain ⟨h1, h2, h3⟩ := hx
    rw [hat] at h1
    by_cases hm : i ∈ l
    · rw [if_pos hm] at h1
      cases hy : atL S.L i with
      | none => rw [hy] at h1; cases h1
      | some y =>
        rw [hy] at h1
        obtain rfl : lostE t y = x := by simpa using h1
        by_cases es : s = t
        · subst es; rw [lostE_bit] at h3; cases h3
        · obtain ⟨k1, k2, k3, k4, k5⟩ := lostE_k t y
          exact .inr ⟨es, y, ⟨hy, by rw [← k1]; exact h2, by rw [← lostE_other es]; exact h3⟩, by unfold Ent.parts; rw [k2, k3, k4, k5]⟩
    · rw [if_neg hm] at h1
      by_cases es : s = t
      · exact .inl ⟨es, hm, h1, h2, h3⟩
      · exact .inr ⟨es, x, ⟨h1, h2, h3⟩, rfl⟩
  have forth : ∀ s i x, OwnSq S s i x → (s = t → i ∉ l) → ∃ x', OwnSq (loseN t l (markA S t)) s i x' := fun s i x hx hm => by
    obtain ⟨h1, h2, h3⟩ := hx
    by_cases hil : i ∈ l
    · have es : s ≠ t := fun e => hm e hil
      obtain ⟨k1, _⟩ := lostE_k t x
      exact ⟨lostE t x, by rw [hat, if_pos hil, h1]; rfl, by rw [k1]; exact h2, by rw [lostE_other es]; exact h3⟩
    · exact ⟨x, by rw [hat, if_neg hil]; exact h1, h2, h3⟩
  have mono : ∀ (s : Nat) (c : Int), ownsA S.L s c 0 = true → (s = t → ∀ j ∈ l, (j : Int) ≠ c) → ownsA (loseN t l (markA S t)).L s c 0 = true := fun s c ho hm => by
    refine owns_mono ho fun h2 x hx hk hb => ?_
    obtain ⟨x', g1, g2, g3⟩ := forth s c.toNat x ⟨hx, hk, hb⟩ fun e hj => hm e _ hj (by omega)
    exact ⟨x', g1, g2, g3⟩
  refine ⟨fun s i hi => ?_, fun s i x hx c hc => ?_, fun s i x hx c hc j hj e => ?_⟩
  · rw [loseN_len]
    rw [hadd] at hi
    split at hi
    · cases hi
    · exact h.add s i hi
  · rcases back s i x hx with ⟨rfl, hm, ho⟩ | ⟨es, x', ho, hpp⟩
    · exact mono _ c (h.part _ i x ho c hc) fun _ j hj e => hl i x ho hm c hc j hj e
    · exact mono s c (h.part s i x' ho c (by rw [hpp]; exact hc)) fun e => absurd e es
  · rw [hadd] at hj ⊢
    rcases back s i x hx with ⟨rfl, hm, ho⟩ | ⟨es, x', ho, hpp⟩
    · rw [if_pos rfl] at hj; cases hj
    · rw [if_neg es] at hj ⊢
      exact h.fresh s i x' ho c (by rw [hpp]; exact hc) j hj e
theorem Inv.undone {S : ArS} (h : Inv S) (hS : S.added.length = 64) {t : Nat} (ht : t < 64) : Inv (undoA S t) :=
  h.lost hS ht (S.add t) fun i x ho hm c hc j hj e => hm (h.fresh t i x ho c hc j hj e)
theorem mem_others {n : Nat} {K : List Int} {i : Nat} : i ∈ othersOf n K ↔ 2 ≤ i ∧ i < n ∧ (i : Int) ∉ K := by
  unfold othersOf
  rw [List.mem_filter, List.mem_range'_1]
  constructor
  · rintro ⟨⟨h1, h2⟩, h3⟩
    exact ⟨h1, by omega, by simpa using h3⟩
  · rintro ⟨h1, h2, h3⟩
    exact ⟨⟨h1, by omega⟩, by simpa using h3⟩
theorem Inv.cleaned {S : ArS} (h : Inv S) (ok : ArOk S) {t : Nat} (ht : t < 64) {rs K : List Int} (hK : ∀ i, i ∈ K ↔ Reach S.L t rs i) : Inv (cleanA S t K) := by
  refine h.lost ok.added ht _ fun i x ho hm c hc j hj e => ?_
  obtain ⟨g1, g2, g3⟩ := mem_others.1 hj
  have hi : (i : Int) ∈ K := by
    rcases Classical.em ((i : Int) ∈ K) with hi | hi
    · exact hi
    · exact absurd (mem_others.2 ⟨two_of ok ho.1, atL_lt ho.1, hi⟩) hm
  refine g3 ((hK _).2 ?_)
  subst e
  exact Reach.kid ((hK _).1 hi) (by rw [Int.toNat_natCast]; exact ho.1) hc (by omega) (h.part t i x ho _ hc)
theorem ownAll_parts {L : List (Option Ent)} {t : Nat} {q : Four} (h : ownAll L t q = true) (lv va : Int) (ma : Nat) : ∀ c ∈ (entOf (0, q) lv va ma).parts, ownsA L t c 0 = true := by
  unfold ownAll at h
  simp only [Bool.and_eq_true] at h
  intro c hc
  have hc' : c = q.1 ∨ c = q.2.1 ∨ c = q.2.2.1 ∨ c = q.2.2.2 := by simpa [Ent.parts, entOf] using hc
  rcases hc' with rfl | rfl | rfl | rfl
  · exact h.1
  · exact h.2.1
  · exact h.2.2.1
  · exact h.2.2.2
theorem Inv.gave {S S' : ArS} (h : Inv S) (ok : ArOk S) (ok1 : ArOk (sweptA S)) {t : Nat} (ht : t < 64) {k : AKey} {lv va r e : Int} (hp : k.1 = 0 → ∀ c ∈ (entOf k lv va 0).parts, ownsA S.L t c 0 = true) (hG : Gave S t k lv va r e S') : Inv S' := by
  rcases hG with ⟨i, x, hx, hb, rfl, rfl, rfl⟩ | ⟨hno, hq, rfl, rfl, rfl⟩ | ⟨i, x, hx, hb, hq, rfl, rfl, rfl⟩ | ⟨hno, hq, S1, hS1, hG⟩
  · exact h
  · exact h
  · refine h.took ok ht hx.1 hb fun hk c hc => ?_
    obtain ⟨hx1, rfl⟩ := hx
    exact hp hk c hc
  · have h1 : Inv S1 ∧ ArOk S1 ∧ ∀ c, ownsA S.L t c 0 = true → ownsA S1.L t c 0 = true := by
      rw [hS1]
      split
      · refine ⟨h.swept, ok1, fun c ho => owns_mono ho fun _ x hx hk hb => ⟨x, ?_, hk, hb⟩⟩
        show atL (sweptL S.L) _ = _
        rw [swept_here, hx]
        simp only
        rw [if_neg (bit_ne hb)]
      · exact ⟨h, ok, fun c ho => ho⟩
    rcases hG with ⟨hf, rfl, rfl, rfl⟩ | ⟨hf, i, hi, rfl, rfl, rfl⟩
    · exact h1.1
    · exact h1.1.new h1.2.1 ht hi fun hk c hc => h1.2.2 c (hp hk c hc)
end Go.Proofs.Ytdmamecfmfhlmaa
