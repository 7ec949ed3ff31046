/-
  Squares as trees; what gives do to an arena's own trees: plain.
-/
import Derived.Test.YtdmamecfmfhlmaaZQuadPutsArJoin
namespace Go.Proofs.Ytdmamecfmfhlmaa
set_option maxRecDepth 100000

inductive Tree where
  | leaf (b : Bool)
  | node (a b c d : Tree)
deriving DecidableEq
/-- A number is a tenant's own square of a level, and this tree. -/
def Den (L : List (Option Ent)) (t : Nat) : Nat → Tree → Int → Prop
  | 0, .leaf b, id => id = if b then 1 else 0
  | n + 1, .node a b c d, id => 2 ≤ id ∧ ∃ x, atL L id.toNat = some x ∧ x.k = 0 ∧ x.lv = ((n + 1 : Nat) : Int) ∧ x.ma.testBit t = true ∧ Den L t n a x.a ∧ Den L t n b x.b ∧ Den L t n c x.c ∧ Den L t n d x.d
  | 0, .node _ _ _ _, _ => False
  | _ + 1, .leaf _, _ => False
def emptyT : Nat → Tree
  | 0 => .leaf false
  | n + 1 => .node (emptyT n) (emptyT n) (emptyT n) (emptyT n)
/-- What is a tenant's own stays so. -/
def ExtT (t : Nat) (L L' : List (Option Ent)) : Prop := ∀ i x, atL L i = some x → x.ma.testBit t = true → ∃ x', atL L' i = some x' ∧ x'.key = x.key ∧ x'.lv = x.lv ∧ x'.va = x.va ∧ x'.ma.testBit t = true
theorem ExtT.refl (t : Nat) (L : List (Option Ent)) : ExtT t L L := fun _ x h1 h2 => ⟨x, h1, rfl, rfl, rfl, h2⟩
theorem ExtT.trans {t : Nat} {L M N : List (Option Ent)} (h : ExtT t L M) (k : ExtT t M N) : ExtT t L N := fun i x h1 h2 => by
  obtain ⟨y, a1, a2, a3, a4, a5⟩ := h i x h1 h2
  obtain ⟨z, b1, b2, b3, b4, b5⟩ := k i y a1 a5
  exact ⟨z, b1, b2.trans a2, b3.trans a3, b4.trans a4, b5⟩
theorem key_parts {x y : Ent} (h : x.key = y.key) : x.k = y.k ∧ x.a = y.a ∧ x.b = y.b ∧ x.c = y.c ∧ x.d = y.d := by
  unfold Ent.key at h
  simp only [Prod.mk.injEq] at h
  exact h
theorem Den.ext {L L' : List (Option Ent)} {t : Nat} (he : ExtT t L L') : ∀ {n : Nat} {T : Tree} {id : Int}, Den L t n T id → Den L' t n T id
  | 0, .leaf _, _, h => h
  | 0, .node _ _ _ _, _, h => h
  | _ + 1, .leaf _, _, h => h
  | n + 1, .node a b c d, id, h => by
    obtain ⟨h2, x, h3, h4, h5, h6, ha, hb, hc, hd⟩ := h
    obtain ⟨y, g1, g2, g3, _, g5⟩ := he _ x h3 h6
    obtain ⟨e1, e2, e3, e4, e5⟩ := key_parts g2
    refine ⟨h2, y, g1, by rw [e1]; exact h4, by rw [g3]; exact h5, g5, by rw [e2]; exact Den.ext he ha, by rw [e3]; exact Den.ext he hb, by rw [e4]; exact Den.ext he hc, by rw [e5]; exact Den.ext he hd⟩
/-- One number has one tree. -/
theorem Den.same {L : List (Option Ent)} {t : Nat} : ∀ {n : Nat} {T U : Tree} {id : Int}, Den L t n T id → Den L t n U id → T = U
  | 0, .leaf a, .leaf b, id, h, k => by
    have h : id = if a then 1 else 0 := h
    have k : id = if b then 1 else 0 := k
    cases a <;> cases b <;> simp at h k <;> first | rfl | omega
  | 0, .node _ _ _ _, _, _, h, _ => h.elim
  | 0, .leaf _, .node _ _ _ _, _, _, k => k.elim
  | _ + 1, .leaf _, _, _, h, _ => h.elim
  | _ + 1, .node _ _ _ _, .leaf _, _, _, k => k.elim
  | n + 1, .node a b c d, .node a' b' c' d', id, h, k => by
    obtain ⟨_, x, h3, _, _, _, ha, hb, hc, hd⟩ := h
    obtain ⟨_, y, k3, _, _, _, ka, kb, kc, kd⟩ := k
    rw [h3] at k3; cases k3
    rw [ha.same ka, hb.same kb, hc.same kc, hd.same kd]
/-- One tree has one number. -/
theorem Den.inj {S : ArS} (ok : ArOk S) {t : Nat} : ∀ {n : Nat} {T : Tree} {p q : Int}, Den S.L t n T p → Den S.L t n T q → p = q
  | 0, .leaf _, _, _, h, k => by
    have h := id h; have k := id k
    unfold Den at h k
    rw [h, k]
  | 0, .node _ _ _ _, _, _, h, _ => h.elim
  | _ + 1, .leaf _, _, _, h, _ => h.elim
  | n + 1, .node a b c d, p, q, h, k => by
    obtain ⟨h2, x, h3, h4, _, _, ha, hb, hc, hd⟩ := h
    obtain ⟨k2, y, k3, k4, _, _, ka, kb, kc, kd⟩ := k
    have e : x.key = y.key := by
      unfold Ent.key
      rw [h4, k4, Den.inj ok ha ka, Den.inj ok hb kb, Den.inj ok hc kc, Den.inj ok hd kd]
    have := ok.uniq _ _ x y h3 k3 e
    omega
theorem Den.owns {L : List (Option Ent)} {t : Nat} : ∀ {n : Nat} {T : Tree} {id : Int}, Den L t n T id → ownsA L t id 0 = true
  | 0, .leaf b, id, h => ownsA_base (by have h : id = if b then 1 else 0 := h; cases b <;> simp at h <;> omega)
  | 0, .node _ _ _ _, _, h => h.elim
  | _ + 1, .leaf _, _, h => h.elim
  | n + 1, .node a b c d, id, h => by
    obtain ⟨h2, x, h3, h4, _, h6, _⟩ := h
    unfold ownsA
    rw [h3, decide_eq_true h2]
    simp [h4, h6]
theorem Den.lev {S : ArS} (ok : ArOk S) {t : Nat} : ∀ {n : Nat} {T : Tree} {id : Int}, Den S.L t n T id → lvA S.L id = n
  | 0, .leaf b, id, h => by
    have h : id = if b then 1 else 0 := h
    have : id.toNat = 0 ∨ id.toNat = 1 := by cases b <;> simp at h <;> omega
    unfold lvA
    rcases this with e | e
    · rw [e, ok.nil0]; rfl
    · rw [e, ok.nil1]; rfl
  | 0, .node _ _ _ _, _, h => h.elim
  | _ + 1, .leaf _, _, h => h.elim
  | n + 1, .node a b c d, id, h => by
    obtain ⟨h2, x, h3, h4, h5, h6, _⟩ := h
    unfold lvA
    rw [h3]; exact h5
theorem Den.nat {L : List (Option Ent)} {t : Nat} : ∀ {n : Nat} {T : Tree} {id : Int}, Den L t n T id → 0 ≤ id ∧ (id < 2 ∨ id < (L.length : Int))
  | 0, .leaf b, id, h => by
    have h : id = if b then 1 else 0 := h
    cases b <;> simp at h <;> omega
  | 0, .node _ _ _ _, _, h => h.elim
  | _ + 1, .leaf _, _, h => h.elim
  | n + 1, .node a b c d, id, h => by
    obtain ⟨h2, x, h3, _⟩ := h
    have := atL_lt h3
    omega
theorem Den.i64 {S : ArS} (ok : ArOk S) {t n : Nat} {T : Tree} {id : Int} (h : Den S.L t n T id) : I64 id := by
  have h1 := h.nat
  have := ok.long; have := ok.room
  unfold I64
  omega
/-! ### What give does -/
theorem newA_at {S : ArS} {t i : Nat} {k : AKey} {lv va : Int} (hi : i ≤ S.L.length) (j : Nat) : atL (newA S t i k lv va).L j = if i = j then some (entOf k lv va (0 ||| 2 ^ t)) else atL S.L j := by
  have hl : i < (roomA S i).L.length := by
    unfold roomA
    simp only
    split
    · assumption
    · rw [List.length_append]; simp; omega
  unfold newA takeA putA
  simp only
  rw [List.set_set, atL_set hl, room_at]
  rfl
theorem swept_keep {L : List (Option Ent)} {j : Nat} {x : Ent} (h : atL L j = some x) (hx : x.ma ≠ 0) : atL (sweptL L) j = some x := by
  rw [atL_some] at h ⊢
  rw [sweptL, List.getElem?_map, h]
  simp [hx]
theorem swept_ext (t : Nat) (L : List (Option Ent)) : ExtT t L (sweptL L) := fun i x h1 h2 => ⟨x, swept_keep h1 (fun e => by rw [e] at h2; simp at h2), rfl, rfl, rfl, h2⟩
theorem new_ext {S : ArS} {t i : Nat} {k : AKey} {lv va : Int} (h : LeastA S.L i) (s : Nat) : ExtT s S.L (newA S t i k lv va).L := fun j x h1 h2 => by
  refine ⟨x, ?_, rfl, rfl, rfl, h2⟩
  rw [newA_at h.2.2.1]
  by_cases e : i = j
  · subst e; rw [h.2.1] at h1; cases h1
  · rw [if_neg e]; exact h1
theorem take_ext {S : ArS} {t i : Nat} {x : Ent} (hx : atL S.L i = some x) (s : Nat) : ExtT s S.L (takeA S t i x).L := fun j y h1 h2 => by
  unfold takeA
  simp only
  rw [atL_set (atL_lt hx)]
  by_cases e : i = j
  · subst e
    rw [hx] at h1; cases h1
    exact ⟨_, if_pos rfl, rfl, rfl, rfl, by simp only; rw [Nat.testBit_or, h2]; rfl⟩
  · exact ⟨y, by rw [if_neg e]; exact h1, rfl, rfl, rfl, h2⟩
theorem Gave.ext {S S' : ArS} {t : Nat} {k : AKey} {lv va r e : Int} (h : Gave S t k lv va r e S') (s : Nat) : ExtT s S.L S'.L := by
  rcases h with ⟨i, x, _, _, _, _, rfl⟩ | ⟨_, _, _, _, rfl⟩ | ⟨i, x, hk, _, _, _, _, rfl⟩ | ⟨_, _, S1, hS1, h⟩
  · exact ExtT.refl _ _
  · exact ExtT.refl _ _
  · exact take_ext hk.1 s
  · have h1 : ExtT s S.L S1.L := by
      rw [hS1]
      split
      · exact swept_ext s S.L
      · exact ExtT.refl _ _
    rcases h with ⟨_, _, _, rfl⟩ | ⟨_, i, hL, _, _, rfl⟩
    · exact h1
    · exact h1.trans (new_ext hL s)
/-- What gives make of an arena. -/
inductive Grew (t : Nat) (S : ArS) : ArS → Prop
  | refl : Grew t S S
  | step {S1 S2 : ArS} {k : AKey} {lv va r e : Int} : Grew t S S1 → Gave S1 t k lv va r e S2 → Grew t S S2
theorem Grew.trans {t : Nat} {S S1 S2 : ArS} (h : Grew t S S1) (k : Grew t S1 S2) : Grew t S S2 := by
  induction k with
  | refl => exact h
  | step _ g ih => exact ih.step g
theorem Grew.ext {t : Nat} {S S' : ArS} (h : Grew t S S') (s : Nat) : ExtT s S.L S'.L := by
  induction h with
  | refl => exact ExtT.refl _ _
  | step _ g ih => exact ih.trans (g.ext s)
theorem Gave.room {S S' : ArS} {t : Nat} {k : AKey} {lv va r e : Int} (h : Gave S t k lv va r e S') : S'.room = S.room ∧ S'.quota = S.quota := by
  rcases h with ⟨i, x, _, _, _, _, rfl⟩ | ⟨_, _, _, _, rfl⟩ | ⟨i, x, hk, _, _, _, _, rfl⟩ | ⟨_, _, S1, hS1, h⟩
  · exact ⟨rfl, rfl⟩
  · exact ⟨rfl, rfl⟩
  · exact ⟨rfl, rfl⟩
  · have h1 : S1.room = S.room ∧ S1.quota = S.quota := by
      rw [hS1]; split <;> exact ⟨rfl, rfl⟩
    rcases h with ⟨_, _, _, rfl⟩ | ⟨_, i, hL, _, _, rfl⟩
    · exact h1
    · exact h1
theorem Grew.room {t : Nat} {S S' : ArS} (h : Grew t S S') : S'.room = S.room ∧ S'.quota = S.quota := by
  induction h with
  | refl => exact ⟨rfl, rfl⟩
  | step _ g ih => exact ⟨g.room.1.trans ih.1, g.room.2.trans ih.2⟩
theorem live_swept (L : List (Option Ent)) : liveL (sweptL L) ≤ liveL L := by
  unfold liveL sweptL
  rw [List.countP_map]
  refine List.countP_mono_left fun o _ h => ?_
  cases o with
  | none => simp at h
  | some x => rfl
theorem live_new {S : ArS} {t i : Nat} {k : AKey} {lv va : Int} (h : LeastA S.L i) : liveL (newA S t i k lv va).L ≤ liveL S.L + 1 := by
  have hl : i < (roomA S i).L.length := by
    unfold roomA
    simp only
    split
    · assumption
    · rw [List.length_append]; simp; have := h.2.2.1; omega
  have hn : atL (roomA S i).L i = none := by rw [room_at]; exact h.2.1
  unfold newA takeA putA
  simp only
  rw [List.set_set, live_put (none_at hl hn), live_room]
  exact Nat.le_refl _
theorem Gave.live {S S' : ArS} {t : Nat} {k : AKey} {lv va r e : Int} (h : Gave S t k lv va r e S') : liveL S'.L ≤ liveL S.L + 1 := by
  rcases h with ⟨i, x, _, _, _, _, rfl⟩ | ⟨_, _, _, _, rfl⟩ | ⟨i, x, hk, _, _, _, _, rfl⟩ | ⟨_, _, S1, hS1, h⟩
  · omega
  · omega
  · unfold takeA
    simp only
    rw [live_set hk.1]; omega
  · have h1 : liveL S1.L ≤ liveL S.L := by
      rw [hS1]; split
      · exact live_swept _
      · exact Nat.le_refl _
    rcases h with ⟨_, _, _, rfl⟩ | ⟨_, i, hL, _, _, rfl⟩
    · omega
    · have := live_new (t := t) (k := k) (lv := lv) (va := va) hL
      omega
/-- What was given has its number. -/
theorem Gave.done {S S' : ArS} {t : Nat} {k : AKey} {lv va r e : Int} (h : Gave S t k lv va r e S') : (e = 0 ∧ ∃ i x, r = ((i : Nat) : Int) ∧ atL S'.L i = some x ∧ x.key = k ∧ x.ma.testBit t = true ∧ (x.lv = lv ∨ ∃ y, atL S.L i = some y ∧ y.key = k ∧ y.lv = x.lv)) ∨
    (r = 0 ∧ (e = 9 ∧ S.quo t ≤ countL S.L t ∨ e = 5 ∧ S.room ≤ liveL S.L)) := by
  rcases h with ⟨i, x, hk, hb, h1, h2, rfl⟩ | ⟨_, hq, h1, h2, rfl⟩ | ⟨i, x, hk, hb, _, h1, h2, rfl⟩ | ⟨_, _, S1, hS1, h⟩
  · exact .inl ⟨h2, i, x, h1, hk.1, hk.2, hb, .inr ⟨x, hk.1, hk.2, rfl⟩⟩
  · exact .inr ⟨h1, .inl ⟨h2, hq⟩⟩
  · refine .inl ⟨h2, i, { x with ma := x.ma ||| 2 ^ t }, h1, ?_, hk.2, bit_same _ _, .inr ⟨x, hk.1, hk.2, rfl⟩⟩
    unfold takeA
    simp only
    rw [atL_set (atL_lt hk.1), if_pos rfl]
  · rcases h with ⟨hful, h1, h2, rfl⟩ | ⟨_, i, hL, h1, h2, rfl⟩
    · refine .inr ⟨h1, .inr ⟨h2, ?_⟩⟩
      rw [hS1] at hful
      split at hful
      · assumption
      · exact hful
    · refine .inl ⟨h2, i, _, h1, by rw [newA_at hL.2.2.1, if_pos rfl], rfl, ?_, .inl rfl⟩
      exact bit_same _ _
end Go.Proofs.Ytdmamecfmfhlmaa
