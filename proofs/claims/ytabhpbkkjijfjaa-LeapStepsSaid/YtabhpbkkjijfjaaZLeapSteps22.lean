/-
  Squares as trees; what gives do to an arena's own trees: plain; Things as trees; what a tenant asks for, and how many things that can be: plain.
-/
import Derived.Test.YtabhpbkkjijfjaaZLeapSteps20
namespace Go.Proofs.Ytabhpbkkjijfjaa
set_option maxRecDepth 100000

inductive Tree where
  | leaf (b : Bool)
  | node (a b c d : Tree)
deriving DecidableEq
/-- A number is a tenant's own square of a level, and this tree. -/
def Den (L : List (Option Ent)) (t : Nat) : Nat → Tree → Int → Prop
  | 0, .leaf b, id => id = if b then 1 else 0
  | n + 1, .node a b c d, id => 2 ≤ id ∧ ∃ x, atL L id.toNat = some x ∧ x.k = 0 ∧ x.lv = ((n + 1 : Nat) : Int) ∧ x.ma.testBit t = true ∧ Den L t n a x.a ∧ Den L t n b x.b ∧ Den L t n c x.c ∧ Den L t n d x.d
  | 0, .node _ _ _ _, _ => False
  | _ + 1, .leaf _, _ => False
def emptyT : Nat → Tree
  | 0 => .leaf false
  | n + 1 => .node (emptyT n) (emptyT n) (emptyT n) (emptyT n)
/-- What is a tenant's own stays so. -/
def ExtT (t : Nat) (L L' : List (Option Ent)) : Prop := ∀ i x, atL L i = some x → x.ma.testBit t = true → ∃ x', atL L' i = some x' ∧ x'.key = x.key ∧ x'.lv = x.lv ∧ x'.va = x.va ∧ x'.ma.testBit t = true
theorem ExtT.refl (t : Nat) (L : List (Option Ent)) : ExtT t L L := fun _ x h1 h2 => ⟨x, h1, rfl, rfl, rfl, h2⟩
theorem ExtT.trans {t : Nat} {L M N : List (Option Ent)} (h : ExtT t L M) (k : ExtT t M N) : ExtT t L N := fun i x h1 h2 => by
  obtain ⟨y, a1, a2, a3, a4, a5⟩ := h i x h1 h2
  obtain ⟨z, b1, b2, b3, b4, b5⟩ := k i y a1 a5
  exact ⟨z, b1, b2.trans a2, b3.trans a3, b4.trans a4, b5⟩
theorem key_parts {x y : Ent} (h : x.key = y.key) : x.k = y.k ∧ x.a = y.a ∧ x.b = y.b ∧ x.c = y.c ∧ x.d = y.d := by
  unfold Ent.key at h
  simp only [Prod.mk.injEq] at h
  exact h
theorem Den.ext {L L' : List (Option Ent)} {t : Nat} (he : ExtT t L L') : ∀ {n : Nat} {T : Tree} {id : Int}, Den L t n T id → Den L' t n T id
  | 0, .leaf _, _, h => h
  | 0, .node _ _ _ _, _, h => h
  | _ + 1, .leaf _, _, h => h
  | n + 1, .node a b c d, id, h => by
    obtain ⟨h2, x, h3, h4, h5, h6, ha, hb, hc, hd⟩ := h
    obtain ⟨y, g1, g2, g3, _, g5⟩ := he _ x h3 h6
    obtain ⟨e1, e2, e3, e4, e5⟩ := key_parts g2
    refine ⟨h2, y, g1, by rw [e1]; exact h4, by rw [g3]; exact h5, g5, by rw [e2]; exact Den.ext he ha, by rw [e3]; exact Den.ext he hb, by rw [e4]; exact Den.ext he hc, by rw [e5]; exact Den.ext he hd⟩
/-- One number has one tree. -/
theorem Den.same {L : List (Option Ent)} {t : Nat} : ∀ {n : Nat} {T U : Tree} {id : Int}, Den L t n T id → Den L t n U id → T = U
  | 0, .leaf a, .leaf b, id, h, k => by
    have h : id = if a then 1 else 0 := h
    have k : id = if b then 1 else 0 := k
    cases a <;> cases b <;> simp at h k <;> first | rfl | omega
  | 0, .node _ _ _ _, _, _, h, _ => h.elim
  | 0, .leaf _, .node _ _ _ _, _, _, k => k.elim
  | _ + 1, .leaf _, _, _, h, _ => h.elim
  | _ + 1, .node _ _ _ _, .leaf _, _, _, k => k.elim
  | n + 1, .node a b c d, .node a' b' c' d', id, h, k => by
    obtain ⟨_, x, h3, _, _, _, ha, hb, hc, hd⟩ := h
    obtain ⟨_, y, k3, _, _, _, ka, kb, kc, kd⟩ := k
    rw [h3] at k3; cases k3
    rw [ha.same ka, hb.same kb, hc.same kc, hd.same kd]
/-- One tree has one number. -/
theorem Den.inj {S : ArS} (ok : ArOk S) {t : Nat} : ∀ {n : Nat} {T : Tree} {p q : Int}, Den S.L t n T p → Den S.L t n T q → p = q
  | 0, .leaf _, _, _, h, k => by
    have h := id h; have k := id k
    unfold Den at h k
    rw [h, k]
  | 0, .node _ _ _ _, _, _, h, _ => h.elim
  | _ + 1, .leaf _, _, _, h, _ => h.elim
  | n + 1, .node a b c d, p, q, h, k => by
    obtain ⟨h2, x, h3, h4, _, _, ha, hb, hc, hd⟩ := h
    obtain ⟨k2, y, k3, k4, _, _, ka, kb, kc, kd⟩ := k
    have e : x.key = y.key := by
      unfold Ent.key
      rw [h4, k4, Den.inj ok ha ka, Den.inj ok hb kb, Den.inj ok hc kc, Den.inj ok hd kd]
    have := ok.uniq _ _ x y h3 k3 e
    omega
theorem Den.owns {L : List (Option Ent)} {t : Nat} : ∀ {n : Nat} {T : Tree} {id : Int}, Den L t n T id → ownsA L t id 0 = true
  | 0, .leaf b, id, h => ownsA_base (by have h : id = if b then 1 else 0 := h; cases b <;> simp at h <;> omega)
  | 0, .node _ _ _ _, _, h => h.elim
  | _ + 1, .leaf _, _, h => h.elim
  | n + 1, .node a b c d, id, h => by
    obtain ⟨h2, x, h3, h4, _, h6, _⟩ := h
    unfold ownsA
    rw [h3, decide_eq_true h2]
    simp [h4, h6]
theorem Den.lev {S : ArS} (ok : ArOk S) {t : Nat} : ∀ {n : Nat} {T : Tree} {id : Int}, Den S.L t n T id → lvA S.L id = n
  | 0, .leaf b, id, h => by
    have h : id = if b then 1 else 0 := h
    have : id.toNat = 0 ∨ id.toNat = 1 := by cases b <;> simp at h <;> omega
    unfold lvA
    rcases this with e | e
    · rw [e, ok.nil0]; rfl
    · rw [e, ok.nil1]; rfl
  | 0, .node _ _ _ _, _, h => h.elim
  | _ + 1, .leaf _, _, h => h.elim
  | n + 1, .node a b c d, id, h => by
    obtain ⟨h2, x, h3, h4, h5, h6, _⟩ := h
    unfold lvA
    rw [h3]; exact h5
theorem Den.nat {L : List (Option Ent)} {t : Nat} : ∀ {n : Nat} {T : Tree} {id : Int}, Den L t n T id → 0 ≤ id ∧ (id < 2 ∨ id < (L.length : Int))
  | 0, .leaf b, id, h => by
    have h : id = if b then 1 else 0 := h
    cases b <;> simp at h <;> omega
  | 0, .node _ _ _ _, _, h => h.elim
  | _ + 1, .leaf _, _, h => h.elim
  | n + 1, .node a b c d, id, h => by
    obtain ⟨h2, x, h3, _⟩ := h
    have := atL_lt h3
    omega
theorem Den.i64 {S : ArS} (ok : ArOk S) {t n : Nat} {T : Tree} {id : Int} (h : Den S.L t n T id) : I64 id := by
  have h1 := h.nat
  have := ok.long; have := ok.room
  unfold I64
  omega
/-! ### What give does -/
theorem newA_at {S : ArS} {t i : Nat} {k : AKey} {lv va : Int} (hi : i ≤ S.L.length) (j : Nat) : atL (newA S t i k lv va).L j = if i = j then some (entOf k lv va (0 ||| 2 ^ t)) else atL S.L j := by
  have hl : i < (roomA S i).L.length := by
    unfold roomA
    simp only
    split
    · assumption
    · rw [List.length_append]; simp; omega
  unfold newA takeA putA
  simp only
  rw [List.set_set, atL_set hl, room_at]
  rfl
theorem swept_keep {L : List (Option Ent)} {j : Nat} {x : Ent} (h : atL L j = some x) (hx : x.ma ≠ 0) : atL (sweptL L) j = some x := by
  rw [atL_some] at h ⊢
  rw [sweptL, List.getElem?_map, h]
  simp [hx]
theorem swept_ext (t : Nat) (L : List (Option Ent)) : ExtT t L (sweptL L) := fun i x h1 h2 => ⟨x, swept_keep h1 (fun e => by rw [e] at h2; simp at h2), rfl, rfl, rfl, h2⟩
theorem new_ext {S : ArS} {t i : Nat} {k : AKey} {lv va : Int} (h : LeastA S.L i) (s : Nat) : ExtT s S.L (newA S t i k lv va).L := fun j x h1 h2 => by
  refine ⟨x, ?_, rfl, rfl, rfl, h2⟩
  rw [newA_at h.2.2.1]
  by_cases e : i = j
  · subst e; rw [h.2.1] at h1; cases h1
  · rw [if_neg e]; exact h1
theorem take_ext {S : ArS} {t i : Nat} {x : Ent} (hx : atL S.L i = some x) (s : Nat) : ExtT s S.L (takeA S t i x).L := fun j y h1 h2 => by
  unfold takeA
  simp only
  rw [atL_set (atL_lt hx)]
  by_cases e : i = j
  · subst e
    rw [hx] at h1; cases h1
    exact ⟨_, if_pos rfl, rfl, rfl, rfl, by simp only; rw [Nat.testBit_or, h2]; rfl⟩
  · exact ⟨y, by rw [if_neg e]; exact h1, rfl, rfl, rfl, h2⟩
theorem Gave.ext {S S' : ArS} {t : Nat} {k : AKey} {lv va r e : Int} (h : Gave S t k lv va r e S') (s : Nat) : ExtT s S.L S'.L := by
  rcases h with ⟨i, x, _, _, _, _, rfl⟩ | ⟨_, _, _, _, rfl⟩ | ⟨i, x, hk, _, _, _, _, rfl⟩ | ⟨_, _, S1, hS1, h⟩
  · exact ExtT.refl _ _
  · exact ExtT.refl _ _
  · exact take_ext hk.1 s
  · have h1 : ExtT s S.L S1.L := by
      rw [hS1]
      split
      · exact swept_ext s S.L
      · exact ExtT.refl _ _
    rcases h with ⟨_, _, _, rfl⟩ | ⟨_, i, hL, _, _, rfl⟩
    · exact h1
    · exact h1.trans (new_ext hL s)
/-- What gives make of an arena. -/
inductive Grew (t : Nat) (S : ArS) : ArS → Prop
  | refl : Grew t S S
  | step {S1 S2 : ArS} {k : AKey} {lv va r e : Int} : Grew t S S1 → Gave S1 t k lv va r e S2 → Grew t S S2
theorem Grew.trans {t : Nat} {S S1 S2 : ArS} (h : Grew t S S1) (k : Grew t S1 S2) : Grew t S S2 := by
  induction k with
  | refl => exact h
  | step _ g ih => exact ih.step g
theorem Grew.ext {t : Nat} {S S' : ArS} (h : Grew t S S') (s : Nat) : ExtT s S.L S'.L := by
  induction h with
  | refl => exact ExtT.refl _ _
  | step _ g ih => exact ih.trans (g.ext s)
theorem Gave.room {S S' : ArS} {t : Nat} {k : AKey} {lv va r e : Int} (h : Gave S t k lv va r e S') : S'.room = S.room ∧ S'.quota = S.quota := by
  rcases h with ⟨i, x, _, _, _, _, rfl⟩ | ⟨_, _, _, _, rfl⟩ | ⟨i, x, hk, _, _, _, _, rfl⟩ | ⟨_, _, S1, hS1, h⟩
  · exact ⟨rfl, rfl⟩
  · exact ⟨rfl, rfl⟩
  · exact ⟨rfl, rfl⟩
  · have h1 : S1.room = S.room ∧ S1.quota = S.quota := by
      rw [hS1]; split <;> exact ⟨rfl, rfl⟩
    rcases h with ⟨_, _, _, rfl⟩ | ⟨_, i, hL, _, _, rfl⟩
    · exact h1
    · exact h1
theorem Grew.room {t : Nat} {S S' : ArS} (h : Grew t S S') : S'.room = S.room ∧ S'.quota = S.quota := by
  induction h with
  | refl => exact ⟨rfl, rfl⟩
  | step _ g ih => exact ⟨g.room.1.trans ih.1, g.room.2.trans ih.2⟩
theorem live_swept (L : List (Option Ent)) : liveL (sweptL L) ≤ liveL L := by
  unfold liveL sweptL
  rw [List.countP_map]
  refine List.countP_mono_left fun o _ h => ?_
  cases o with
  | none => simp at h
  | some x => rfl
theorem live_new {S : ArS} {t i : Nat} {k : AKey} {lv va : Int} (h : LeastA S.L i) : liveL (newA S t i k lv va).L ≤ liveL S.L + 1 := by
  have hl : i < (roomA S i).L.length := by
    unfold roomA
    simp only
    split
    · assumption
    · rw [List.length_append]; simp; have := h.2.2.1; omega
  have hn : atL (roomA S i).L i = none := by rw [room_at]; exact h.2.1
  unfold newA takeA putA
  simp only
  rw [List.set_set, live_put (none_at hl hn), live_room]
  exact Nat.le_refl _
theorem Gave.live {S S' : ArS} {t : Nat} {k : AKey} {lv va r e : Int} (h : Gave S t k lv va r e S') : liveL S'.L ≤ liveL S.L + 1 := by
  rcases h with ⟨i, x, _, _, _, _, rfl⟩ | ⟨_, _, _, _, rfl⟩ | ⟨i, x, hk, _, _, _, _, rfl⟩ | ⟨_, _, S1, hS1, h⟩
  · omega
  · omega
  · unfold takeA
    simp only
    rw [live_set hk.1]; omega
  · have h1 : liveL S1.L ≤ liveL S.L := by
      rw [hS1]; split
      · exact live_swept _
      · exact Nat.le_refl _
    rcases h with ⟨_, _, _, rfl⟩ | ⟨_, i, hL, _, _, rfl⟩
    · omega
    · have := live_new (t := t) (k := k) (lv := lv) (va := va) hL
      omega
/-- What was given has its number. -/
theorem Gave.done {S S' : ArS} {t : Nat} {k : AKey} {lv va r e : Int} (h : Gave S t k lv va r e S') : (e = 0 ∧ ∃ i x, r = ((i : Nat) : Int) ∧ atL S'.L i = some x ∧ x.key = k ∧ x.ma.testBit t = true ∧ (x.lv = lv ∨ ∃ y, atL S.L i = some y ∧ y.key = k ∧ y.lv = x.lv)) ∨
    (r = 0 ∧ (e = 9 ∧ S.quo t ≤ countL S.L t ∨ e = 5 ∧ S.room ≤ liveL S.L)) := by
  rcases h with ⟨i, x, hk, hb, h1, h2, rfl⟩ | ⟨_, hq, h1, h2, rfl⟩ | ⟨i, x, hk, hb, _, h1, h2, rfl⟩ | ⟨_, _, S1, hS1, h⟩
  · exact .inl ⟨h2, i, x, h1, hk.1, hk.2, hb, .inr ⟨x, hk.1, hk.2, rfl⟩⟩
  · exact .inr ⟨h1, .inl ⟨h2, hq⟩⟩
  · refine .inl ⟨h2, i, { x with ma := x.ma ||| 2 ^ t }, h1, ?_, hk.2, bit_same _ _, .inr ⟨x, hk.1, hk.2, rfl⟩⟩
    unfold takeA
    simp only
    rw [atL_set (atL_lt hk.1), if_pos rfl]
  · rcases h with ⟨hful, h1, h2, rfl⟩ | ⟨_, i, hL, h1, h2, rfl⟩
    · refine .inr ⟨h1, .inr ⟨h2, ?_⟩⟩
      rw [hS1] at hful
      split at hful
      · assumption
      · exact hful
    · refine .inl ⟨h2, i, _, h1, by rw [newA_at hL.2.2.1, if_pos rfl], rfl, ?_, .inl rfl⟩
      exact bit_same _ _
end Go.Proofs.Ytabhpbkkjijfjaa
namespace Go.Proofs.Ytabhpbkkjijfjaa
set_option maxRecDepth 100000

/-- A thing that a tenant may have: a square, or a note about one. -/
inductive Th where
  | sq (T : Tree)
  | note (T : Tree) (code j : Int)
/-- A key is this thing. -/
def KeyT (L : List (Option Ent)) (t : Nat) (k : AKey) : Th → Prop
  | .sq T => k.1 = 0 ∧ ∃ n a b c d, T = .node a b c d ∧ Den L t n a k.2.1 ∧ Den L t n b k.2.2.1 ∧ Den L t n c k.2.2.2.1 ∧ Den L t n d k.2.2.2.2
  | .note T code j => ∃ n, Den L t n T k.2.1 ∧ k = (1, k.2.1, code, j, 0)
theorem den_level {L : List (Option Ent)} {t : Nat} : ∀ {n m : Nat} {T : Tree} {p q : Int}, Den L t n T p → Den L t m T q → n = m
  | 0, 0, _, _, _, _, _ => rfl
  | 0, _ + 1, .leaf _, _, _, _, h => h.elim
  | 0, _ + 1, .node _ _ _ _, _, _, h, _ => h.elim
  | _ + 1, 0, .leaf _, _, _, h, _ => h.elim
  | _ + 1, 0, .node _ _ _ _, _, _, _, h => h.elim
  | _ + 1, _ + 1, .leaf _, _, _, h, _ => h.elim
  | n + 1, m + 1, .node a b c d, _, _, h, k => by
    obtain ⟨_, _, _, _, _, _, ha, _⟩ := h
    obtain ⟨_, _, _, _, _, _, ka, _⟩ := k
    rw [den_level ha ka]
theorem KeyT.ext {L L' : List (Option Ent)} {t : Nat} {k : AKey} {th : Th} (h : KeyT L t k th) (he : ExtT t L L') : KeyT L' t k th := by
  cases th with
  | sq T =>
    obtain ⟨h0, n, a, b, c, d, hT, ha, hb, hc, hd⟩ := h
    exact ⟨h0, n, a, b, c, d, hT, ha.ext he, hb.ext he, hc.ext he, hd.ext he⟩
  | note T code j =>
    obtain ⟨n, h1, h2⟩ := h
    exact ⟨n, h1.ext he, h2⟩
theorem KeyT.inj {S : ArS} (ok : ArOk S) {t : Nat} {k k' : AKey} {th : Th} (h : KeyT S.L t k th) (g : KeyT S.L t k' th) : k = k' := by
  cases th with
  | sq T =>
    obtain ⟨h0, n, a, b, c, d, hT, ha, hb, hc, hd⟩ := h
    obtain ⟨g0, m, a', b', c', d', gT, ga, gb, gc, gd⟩ := g
    rw [hT] at gT
    cases gT
    obtain rfl := den_level ha ga
    obtain ⟨k0, k1, k2, k3, k4⟩ := k
    obtain ⟨l0, l1, l2, l3, l4⟩ := k'
    simp only at *
    rw [h0, g0, Den.inj ok ha ga, Den.inj ok hb gb, Den.inj ok hc gc, Den.inj ok hd gd]
  | note T code j =>
    obtain ⟨n, h1, h2⟩ := h
    obtain ⟨m, g1, g2⟩ := g
    obtain rfl := den_level h1 g1
    rw [h2, g2, Den.inj ok h1 g1]
/-- What gives make of an arena, where all that is asked for is of this kind. -/
inductive GrewU (U : Th → Prop) (t : Nat) (S : ArS) : ArS → Prop
  | refl : GrewU U t S S
  | step {S1 S2 : ArS} {k : AKey} {lv va r e : Int} : GrewU U t S S1 → Gave S1 t k lv va r e S2 → (∃ th, U th ∧ KeyT S1.L t k th) → (k.1 = 0 → lv = lvA S1.L k.2.1 + 1) → GrewU U t S S2
theorem GrewU.grew {U : Th → Prop} {t : Nat} {S S' : ArS} (h : GrewU U t S S') : Grew t S S' := by
  induction h with
  | refl => exact .refl
  | step _ g _ _ ih => exact ih.step g
theorem GrewU.trans {U : Th → Prop} {t : Nat} {S S1 S2 : ArS} (h : GrewU U t S S1) (k : GrewU U t S1 S2) : GrewU U t S S2 := by
  induction k with
  | refl => exact h
  | step _ g hk hl ih => exact ih.step g hk hl
theorem GrewU.ext {U : Th → Prop} {t : Nat} {S S' : ArS} (h : GrewU U t S S') (s : Nat) : ExtT s S.L S'.L := h.grew.ext s
theorem GrewU.room {U : Th → Prop} {t : Nat} {S S' : ArS} (h : GrewU U t S S') : S'.room = S.room ∧ S'.quota = S.quota := h.grew.room
theorem GrewU.wider {U V : Th → Prop} {t : Nat} {S S' : ArS} (h : GrewU U t S S') (hV : ∀ th, U th → V th) : GrewU V t S S' := by
  induction h with
  | refl => exact .refl
  | step _ g hk hl ih =>
    obtain ⟨th, h1, h2⟩ := hk
    exact ih.step g ⟨th, hV th h1, h2⟩ hl
/-- A thing that is asked for is not a tenant's, and it has all that it may have. -/
def Lacks (U : Th → Prop) (t : Nat) (S : ArS) : Prop := ∃ k th, U th ∧ KeyT S.L t k th ∧ (∀ i x, HasKey S.L k i x → x.ma.testBit t = false) ∧ S.quo t ≤ countL S.L t
/-- No room, and all things are somebody's. -/
def FullA (S : ArS) : Prop := S.room ≤ liveL S.L ∧ ∀ i x, atL S.L i = some x → x.ma ≠ 0
theorem swept_live {L : List (Option Ent)} {i : Nat} {x : Ent} (h : atL (sweptL L) i = some x) : x.ma ≠ 0 := fun e => by
  have h1 := swept_at h
  rw [atL_some] at h h1
  rw [sweptL, List.getElem?_map, h1] at h
  simp [e] at h
theorem Gave.lacks {U : Th → Prop} {S S' : ArS} {t : Nat} {k : AKey} {lv va r e : Int} (h : Gave S t k lv va r e S') (hk : ∃ th, U th ∧ KeyT S.L t k th) (he : e = 9) : Lacks U t S' := by
  rcases h with ⟨_, _, _, _, _, h2, _⟩ | ⟨h1, hq, _, _, rfl⟩ | ⟨_, _, _, _, _, _, h2, _⟩ | ⟨_, _, S1, _, ⟨_, _, h2, _⟩ | ⟨_, _, _, _, h2, _⟩⟩
  · omega
  · obtain ⟨th, g1, g2⟩ := hk
    exact ⟨k, th, g1, g2, h1, hq⟩
  · omega
  · omega
  · omega
theorem Gave.full {S S' : ArS} {t : Nat} {k : AKey} {lv va r e : Int} (h : Gave S t k lv va r e S') (he : e = 5) : FullA S' := by
  rcases h with ⟨_, _, _, _, _, h2, _⟩ | ⟨_, _, _, h2, _⟩ | ⟨_, _, _, _, _, _, h2, _⟩ | ⟨_, _, S1, hS1, ⟨h1, _, _, rfl⟩ | ⟨_, _, _, _, h2, _⟩⟩
  · omega
  · omega
  · omega
  · by_cases hf : S.room ≤ liveL S.L
    · rw [if_pos hf] at hS1
      subst hS1
      exact ⟨h1, fun i x hx => swept_live hx⟩
    · rw [if_neg hf] at hS1
      subst hS1
      exact absurd h1 hf
  · omega
/-- A square that is a part of a square, or itself. -/
def Sub (S : Tree) : Tree → Prop
  | .leaf _ => False
  | .node a b c d => S = .node a b c d ∨ Sub S a ∨ Sub S b ∨ Sub S c ∨ Sub S d
theorem Sub.refl (a b c d : Tree) : Sub (.node a b c d) (.node a b c d) := .inl rfl
theorem sub_empty : ∀ {n k : Nat}, k < n → Sub (emptyT (k + 1)) (emptyT n)
  | 0, _, h => by omega
  | n + 1, k, h => by
    by_cases e : k = n
    · subst e; exact .inl rfl
    · exact .inr (.inl (sub_empty (n := n) (by omega)))
/-- All that a tenant has is of this kind. -/
def OwnU (U : Th → Prop) (t : Nat) (S : ArS) : Prop := ∀ i x, atL S.L i = some x → x.ma.testBit t = true → ∃ th, U th ∧ KeyT S.L t x.key th
theorem Gave.own {U : Th → Prop} {t : Nat} {S S' : ArS} {k : AKey} {lv va r e : Int} (g : Gave S t k lv va r e S') (h : OwnU U t S) (hk : ∃ th, U th ∧ KeyT S.L t k th) : OwnU U t S' := by
  have he := g.ext t
  have up : ∀ {k' : AKey}, (∃ th, U th ∧ KeyT S.L t k' th) → ∃ th, U th ∧ KeyT S'.L t k' th := fun ⟨th, h1, h2⟩ => ⟨th, h1, h2.ext he⟩
  rcases g with ⟨_, _, _, _, _, _, rfl⟩ | ⟨_, _, _, _, rfl⟩ | ⟨j, y, hy, _, _, _, _, rfl⟩ | ⟨_, _, S1, hS1, g⟩
  · exact h
  · exact h
  · intro i x hx hb
    unfold takeA at hx
    simp only at hx
    rw [atL_set (atL_lt hy.1)] at hx
    by_cases e : j = i
    · rw [if_pos e] at hx
      cases hx
      refine up ?_
      have hkk : ({ y with ma := y.ma ||| 2 ^ t } : Ent).key = k := hy.2
      rw [hkk]; exact hk
    · rw [if_neg e] at hx
      exact up (h i x hx hb)
  · have h1 : ∀ i x, atL S1.L i = some x → atL S.L i = some x := fun i x hx => by
      rw [hS1] at hx
      split at hx
      · exact swept_at hx
      · exact hx
    rcases g with ⟨_, _, _, rfl⟩ | ⟨_, j, hL, _, _, rfl⟩
    · exact fun i x hx hb => up (h i x (h1 i x hx) hb)
    · intro i x hx hb
      rw [newA_at hL.2.2.1] at hx
      by_cases e : j = i
      · rw [if_pos e] at hx
        cases hx
        exact up hk
      · rw [if_neg e] at hx
        exact up (h i x (h1 i x hx) hb)
theorem GrewU.own {U : Th → Prop} {t : Nat} {S S' : ArS} (g : GrewU U t S S') (h : OwnU U t S) : OwnU U t S' := by
  induction g with
  | refl => exact h
  | step _ g hk _ ih => exact g.own ih hk
/-! ### How many -/
theorem nodup_len {α : Type} : ∀ {l m : List α}, l.Nodup → (∀ x ∈ l, x ∈ m) → l.length ≤ m.length
  | [], _, _, _ => Nat.zero_le _
  | x :: l, m, hn, hs => by
    have hx := hs x List.mem_cons_self
    obtain ⟨p, q, rfl⟩ := List.append_of_mem hx
    have hn' := List.nodup_cons.1 hn
    have ih : l.length ≤ (p ++ q).length := nodup_len hn'.2 fun y hy => by
      have h1 := hs y (List.mem_cons_of_mem _ hy)
      rcases List.mem_append.1 h1 with h | h
      · exact List.mem_append_left _ h
      · rcases List.mem_cons.1 h with h | h
        · subst h; exact absurd hy hn'.1
        · exact List.mem_append_right _ h
    rw [List.length_append] at ih
    rw [List.length_cons, List.length_append, List.length_cons]
    omega
/-- So many things of this kind at most. -/
def Cov (U : Th → Prop) (N : Nat) : Prop := ∃ l : List Th, l.length ≤ N ∧ ∀ th, U th → th ∈ l
theorem Cov.or {U V : Th → Prop} {N M : Nat} (h : Cov U N) (g : Cov V M) : Cov (fun th => U th ∨ V th) (N + M) := by
  obtain ⟨l, h1, h2⟩ := h
  obtain ⟨m, g1, g2⟩ := g
  refine ⟨l ++ m, by rw [List.length_append]; omega, fun th h => ?_⟩
  rcases h with h | h
  · exact List.mem_append_left _ (h2 th h)
  · exact List.mem_append_right _ (g2 th h)
theorem Cov.sub {U V : Th → Prop} {N M : Nat} (h : Cov U N) (hs : ∀ th, V th → U th) (hN : N ≤ M) : Cov V M := by
  obtain ⟨l, h1, h2⟩ := h
  exact ⟨l, by omega, fun th h => h2 th (hs th h)⟩
/-- Numbers of a tenant's own things. -/
def ownIds (L : List (Option Ent)) (t : Nat) : List Nat := (List.range L.length).filter fun i => mine t (atL L i)
theorem ownIds_len (L : List (Option Ent)) (t : Nat) : (ownIds L t).length = countL L t := by
  unfold ownIds countL
  rw [← List.countP_eq_length_filter]
  have e : L = (List.range L.length).map fun i => atL L i := by
    refine List.ext_getElem? fun i => ?_
    rw [List.getElem?_map]
    by_cases h : i < L.length
    · rw [List.getElem?_range h, List.getElem?_eq_getElem h]
      show some L[i] = some (atL L i)
      rw [atL, List.getElem?_eq_getElem h]; rfl
    · rw [List.getElem?_eq_none (by omega), List.getElem?_eq_none (by simp; omega)]; rfl
  conv => rhs; rw [e]
  rw [List.countP_map]
  rfl
theorem mem_ownIds {L : List (Option Ent)} {t i : Nat} : i ∈ ownIds L t ↔ ∃ x, atL L i = some x ∧ x.ma.testBit t = true := by
  unfold ownIds
  rw [List.mem_filter]
  constructor
  · rintro ⟨_, h⟩
    cases hx : atL L i with
    | none => rw [hx] at h; cases h
    | some x => rw [hx] at h; exact ⟨x, rfl, h⟩
  · rintro ⟨x, hx, hb⟩
    exact ⟨List.mem_range.2 (atL_lt hx), by rw [hx]; exact hb⟩
open Classical in
noncomputable def thOf (U : Th → Prop) (L : List (Option Ent)) (t i : Nat) : Th :=
  if h : ∃ th, U th ∧ ∃ x, atL L i = some x ∧ KeyT L t x.key th then h.choose else .sq (.leaf false)
theorem thOf_ok {U : Th → Prop} {t : Nat} {S : ArS} (h : OwnU U t S) {i : Nat} (hi : i ∈ ownIds S.L t) : ∃ x, atL S.L i = some x ∧ x.ma.testBit t = true ∧ U (thOf U S.L t i) ∧ KeyT S.L t x.key (thOf U S.L t i) := by
  obtain ⟨x, hx, hb⟩ := mem_ownIds.1 hi
  obtain ⟨th, h1, h2⟩ := h i x hx hb
  have he : ∃ th, U th ∧ ∃ x, atL S.L i = some x ∧ KeyT S.L t x.key th := ⟨th, h1, x, hx, h2⟩
  have e : thOf U S.L t i = he.choose := dif_pos he
  obtain ⟨g1, y, hy, g2⟩ := he.choose_spec
  rw [hx] at hy; cases hy
  exact ⟨x, hx, hb, by rw [e]; exact g1, by rw [e]; exact g2⟩
theorem map_nodup {α β : Type} {f : α → β} : ∀ {l : List α}, l.Nodup → (∀ x ∈ l, ∀ y ∈ l, f x = f y → x = y) → (l.map f).Nodup
  | [], _, _ => List.nodup_nil
  | x :: l, hn, hi => by
    have hn' := List.nodup_cons.1 hn
    rw [List.map_cons, List.nodup_cons]
    refine ⟨fun h => ?_, map_nodup hn'.2 fun a ha b hb => hi a (List.mem_cons_of_mem _ ha) b (List.mem_cons_of_mem _ hb)⟩
    obtain ⟨y, hy, e⟩ := List.mem_map.1 h
    have := hi x List.mem_cons_self y (List.mem_cons_of_mem _ hy) e.symm
    subst this
    exact hn'.1 hy
theorem ownIds_nodup (L : List (Option Ent)) (t : Nat) : (ownIds L t).Nodup := List.Nodup.sublist List.filter_sublist List.nodup_range
theorem things_nodup {U : Th → Prop} {t : Nat} {S : ArS} (ok : ArOk S) (h : OwnU U t S) : ((ownIds S.L t).map (thOf U S.L t)).Nodup :=
  map_nodup (ownIds_nodup _ _) fun i hi j hj e => by
    obtain ⟨x, hx, _, _, h1⟩ := thOf_ok h hi
    obtain ⟨y, hy, _, _, h2⟩ := thOf_ok h hj
    rw [← e] at h2
    exact ok.uniq i j x y hx hy (h1.inj ok h2)
theorem count_cov {U : Th → Prop} {t N : Nat} {S : ArS} (ok : ArOk S) (h : OwnU U t S) (hc : Cov U N) : countL S.L t ≤ N := by
  obtain ⟨l, hl, hs⟩ := hc
  rw [← ownIds_len]
  have := nodup_len (m := l) (things_nodup ok h) fun th hth => by
    obtain ⟨i, hi, rfl⟩ := List.mem_map.1 hth
    obtain ⟨_, _, _, h1, _⟩ := thOf_ok h hi
    exact hs _ h1
  rw [List.length_map] at this
  omega
/-- A thing of this kind that a tenant has not leaves room for itself. -/
theorem count_more {U : Th → Prop} {t N : Nat} {S : ArS} (ok : ArOk S) (h : OwnU U t S) (hc : Cov U N) {k : AKey} {th : Th} (hu : U th) (hk : KeyT S.L t k th) (hn : ∀ i x, HasKey S.L k i x → x.ma.testBit t = false) : countL S.L t + 1 ≤ N := by
  obtain ⟨l, hl, hs⟩ := hc
  rw [← ownIds_len]
  have hno : th ∉ (ownIds S.L t).map (thOf U S.L t) := by
    intro hth
    obtain ⟨i, hi, e⟩ := List.mem_map.1 hth
    obtain ⟨x, hx, hb, _, h1⟩ := thOf_ok h hi
    rw [e] at h1
    have := hn i x ⟨hx, h1.inj ok hk⟩
    rw [hb] at this
    cases this
  have hall : ∀ y ∈ th :: (ownIds S.L t).map (thOf U S.L t), y ∈ l := by
    intro y hy
    rcases List.mem_cons.1 hy with h1 | h1
    · subst h1; exact hs _ hu
    · obtain ⟨i, hi, rfl⟩ := List.mem_map.1 h1
      obtain ⟨_, _, _, h1, _⟩ := thOf_ok h hi
      exact hs _ h1
  have := nodup_len (List.nodup_cons.2 ⟨hno, things_nodup ok h⟩) hall
  rw [List.length_cons, List.length_map] at this
  omega
end Go.Proofs.Ytabhpbkkjijfjaa
