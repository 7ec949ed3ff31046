/-
  The form of an arena's squares; how much room joins want: plain.
-/
import Derived.Test.YtabhpbkkjijfjaaZLeapSteps22
namespace Go.Proofs.Ytabhpbkkjijfjaa
set_option maxRecDepth 100000

def KidOk (L : List (Option Ent)) (lv q : Int) : Prop := (lv = 0 ∧ (q = 0 ∨ q = 1)) ∨ (1 ≤ lv ∧ 2 ≤ q ∧ ∃ y, atL L q.toNat = some y ∧ y.k = 0 ∧ y.lv = lv)
/-- A square's quarters are there, a level lower, and everybody's whose the square is. -/
structure WfE (L : List (Option Ent)) (x : Ent) : Prop where
  a : KidOk L (x.lv - 1) x.a
  b : KidOk L (x.lv - 1) x.b
  c : KidOk L (x.lv - 1) x.c
  d : KidOk L (x.lv - 1) x.d
  own : ∀ s, x.ma.testBit s = true → ownsA L s x.a 0 = true ∧ ownsA L s x.b 0 = true ∧ ownsA L s x.c 0 = true ∧ ownsA L s x.d 0 = true
def Wf (L : List (Option Ent)) : Prop := ∀ i x, atL L i = some x → x.k = 0 → WfE L x
theorem own_ext {L L' : List (Option Ent)} {s : Nat} {q : Int} (h : ExtT s L L') (ho : ownsA L s q 0 = true) : ownsA L' s q 0 = true := by
  unfold ownsA at ho ⊢
  simp only [decide_true, Bool.true_and, Bool.or_eq_true, Bool.and_eq_true, decide_eq_true_eq] at ho ⊢
  rcases ho with h1 | ⟨h1, h2⟩
  · exact .inl h1
  · refine .inr ⟨h1, ?_⟩
    cases hx : atL L q.toNat with
    | none => rw [hx] at h2; cases h2
    | some x =>
      rw [hx] at h2
      simp only [Bool.and_eq_true, decide_eq_true_eq] at h2
      obtain ⟨y, g1, g2, _, _, g5⟩ := h _ x hx h2.2
      rw [g1]
      simp only [Bool.and_eq_true, decide_eq_true_eq]
      exact ⟨(key_parts g2).1.trans h2.1, g5⟩
theorem kid_ext {L L' : List (Option Ent)} {s : Nat} {lv q : Int} (h : ExtT s L L') (ho : ownsA L s q 0 = true) (hk : KidOk L lv q) : KidOk L' lv q := by
  rcases hk with h1 | ⟨h1, h2, y, h3, h4, h5⟩
  · exact .inl h1
  · have hb : y.ma.testBit s = true := by
      unfold ownsA at ho
      rw [h3, decide_eq_false (show ¬ q = 0 by omega), decide_eq_false (show ¬ q = 1 by omega), decide_eq_true h2] at ho
      simp at ho
      exact ho.2
    obtain ⟨z, g1, g2, g3, _, g5⟩ := h _ y h3 hb
    exact .inr ⟨h1, h2, z, g1, (key_parts g2).1.trans h4, g3.trans h5⟩
def PresT (L L' : List (Option Ent)) : Prop := ∀ i x, atL L i = some x → ∃ y, atL L' i = some y ∧ y.key = x.key ∧ y.lv = x.lv
theorem kid_pres {L L' : List (Option Ent)} {lv q : Int} (h : PresT L L') (hk : KidOk L lv q) : KidOk L' lv q := by
  rcases hk with h1 | ⟨h1, h2, y, h3, h4, h5⟩
  · exact .inl h1
  · obtain ⟨z, g1, g2, g3⟩ := h _ y h3
    exact .inr ⟨h1, h2, z, g1, (key_parts g2).1.trans h4, g3.trans h5⟩
theorem WfE.up {L L' : List (Option Ent)} {x y : Ent} (h : WfE L x) (hp : PresT L L') (he : ∀ s, ExtT s L L') (hk : y.key = x.key) (hl : y.lv = x.lv) (ho : ∀ s, y.ma.testBit s = true → x.ma.testBit s = true ∨ (ownsA L s x.a 0 = true ∧ ownsA L s x.b 0 = true ∧ ownsA L s x.c 0 = true ∧ ownsA L s x.d 0 = true)) : WfE L' y := by
  obtain ⟨_, e2, e3, e4, e5⟩ := key_parts hk
  refine ⟨by rw [hl, e2]; exact kid_pres hp h.a, by rw [hl, e3]; exact kid_pres hp h.b, by rw [hl, e4]; exact kid_pres hp h.c, by rw [hl, e5]; exact kid_pres hp h.d, fun s hs => ?_⟩
  rw [e2, e3, e4, e5]
  have ho' : ownsA L s x.a 0 = true ∧ ownsA L s x.b 0 = true ∧ ownsA L s x.c 0 = true ∧ ownsA L s x.d 0 = true := by
    rcases ho s hs with h1 | h1
    · exact h.own s h1
    · exact h1
  exact ⟨own_ext (he s) ho'.1, own_ext (he s) ho'.2.1, own_ext (he s) ho'.2.2.1, own_ext (he s) ho'.2.2.2⟩
theorem wf_swept {L : List (Option Ent)} (h : Wf L) : Wf (sweptL L) := fun i x hx hk => by
  have h1 := swept_at hx
  have hm : x.ma ≠ 0 := fun e => by
    rw [atL_some] at hx h1
    rw [sweptL, List.getElem?_map, h1] at hx
    simp [e] at hx
  obtain ⟨s, hs⟩ := Nat.exists_testBit_of_ne_zero hm
  have hw := h i x h1 hk
  have he := fun s => swept_ext s L
  obtain ⟨o1, o2, o3, o4⟩ := hw.own s hs
  refine ⟨kid_ext (he s) o1 hw.a, kid_ext (he s) o2 hw.b, kid_ext (he s) o3 hw.c, kid_ext (he s) o4 hw.d, fun r hr => ?_⟩
  obtain ⟨o1, o2, o3, o4⟩ := hw.own r hr
  exact ⟨own_ext (he r) o1, own_ext (he r) o2, own_ext (he r) o3, own_ext (he r) o4⟩
theorem bit_or {m t s : Nat} (h : (m ||| 2 ^ t).testBit s = true) : m.testBit s = true ∨ s = t := by
  rw [Nat.testBit_or, Nat.testBit_two_pow] at h
  simp only [Bool.or_eq_true, decide_eq_true_eq] at h
  exact h.imp id Eq.symm
/-- The quarters that a join asks for. -/
structure JoinOk (L : List (Option Ent)) (t : Nat) (lv : Int) (q : Four) : Prop where
  a : KidOk L (lv - 1) q.1
  b : KidOk L (lv - 1) q.2.1
  c : KidOk L (lv - 1) q.2.2.1
  d : KidOk L (lv - 1) q.2.2.2
  own : ownsA L t q.1 0 = true ∧ ownsA L t q.2.1 0 = true ∧ ownsA L t q.2.2.1 0 = true ∧ ownsA L t q.2.2.2 0 = true
theorem take_pres {S : ArS} {t i : Nat} {x : Ent} (hx : atL S.L i = some x) : PresT S.L (takeA S t i x).L := fun j y h1 => by
  unfold takeA
  simp only
  rw [atL_set (atL_lt hx)]
  by_cases e : i = j
  · subst e
    rw [hx] at h1; cases h1
    exact ⟨_, if_pos rfl, rfl, rfl⟩
  · exact ⟨y, by rw [if_neg e]; exact h1, rfl, rfl⟩
theorem new_pres {S : ArS} {t i : Nat} {k : AKey} {lv va : Int} (h : LeastA S.L i) : PresT S.L (newA S t i k lv va).L := fun j x h1 => by
  refine ⟨x, ?_, rfl, rfl⟩
  rw [newA_at h.2.2.1]
  by_cases e : i = j
  · subst e; rw [h.2.1] at h1; cases h1
  · rw [if_neg e]; exact h1
theorem Gave.wf {S S' : ArS} {t : Nat} {q : Four} {lv va r e : Int} (h : Gave S t (0, q) lv va r e S') (wf : Wf S.L) (hj : JoinOk S.L t lv q) : Wf S'.L := by
  rcases h with ⟨i, x, _, _, _, _, rfl⟩ | ⟨_, _, _, _, rfl⟩ | ⟨i, x, hk, _, _, _, _, rfl⟩ | ⟨_, _, S1, hS1, h⟩
  · exact wf
  · exact wf
  · intro j y hy hy0
    have he := fun s => take_ext (t := t) hk.1 s
    have hp := take_pres (t := t) hk.1
    have hy' := hy
    unfold takeA at hy'
    simp only at hy'
    rw [atL_set (atL_lt hk.1)] at hy'
    by_cases e : i = j
    · rw [if_pos e] at hy'
      cases hy'
      have hkey := hk.2
      unfold Ent.key at hkey
      simp only [Prod.mk.injEq] at hkey
      refine (wf i x hk.1 hy0).up hp he rfl rfl fun s hs => ?_
      rcases bit_or hs with h1 | h1
      · exact .inl h1
      · subst h1
        right
        obtain ⟨_, hq⟩ := hkey
        subst hq
        exact hj.own
    · rw [if_neg e] at hy'
      exact (wf j y hy' hy0).up hp he rfl rfl fun s hs => .inl hs
  · have h1 : Wf S1.L ∧ JoinOk S1.L t lv q := by
      rw [hS1]
      split
      · have he := swept_ext t S.L
        refine ⟨wf_swept wf, kid_ext he hj.own.1 hj.a, kid_ext he hj.own.2.1 hj.b, kid_ext he hj.own.2.2.1 hj.c, kid_ext he hj.own.2.2.2 hj.d, own_ext he hj.own.1, own_ext he hj.own.2.1, own_ext he hj.own.2.2.1, own_ext he hj.own.2.2.2⟩
      · exact ⟨wf, hj⟩
    obtain ⟨wf1, hj1⟩ := h1
    rcases h with ⟨_, _, _, rfl⟩ | ⟨_, i, hL, _, _, rfl⟩
    · exact wf1
    · intro j y hy hy0
      have he := fun s => new_ext (t := t) (k := (0, q)) (lv := lv) (va := va) hL s
      have hp := new_pres (t := t) (k := (0, q)) (lv := lv) (va := va) hL
      have hy' := hy
      rw [newA_at hL.2.2.1] at hy'
      by_cases e : i = j
      · rw [if_pos e] at hy'
        cases hy'
        refine ⟨kid_pres hp hj1.a, kid_pres hp hj1.b, kid_pres hp hj1.c, kid_pres hp hj1.d, fun s hs => ?_⟩
        have hs' : (0 ||| 2 ^ t : Nat).testBit s = true := hs
        rcases bit_or hs' with h1 | h1
        · simp at h1
        · subst h1
          exact ⟨own_ext (he s) hj1.own.1, own_ext (he s) hj1.own.2.1, own_ext (he s) hj1.own.2.2.1, own_ext (he s) hj1.own.2.2.2⟩
      · rw [if_neg e] at hy'
        exact (wf1 j y hy' hy0).up hp he rfl rfl fun s hs => .inl hs
theorem Den.kid {S : ArS} (_ok : ArOk S) {t n : Nat} {T : Tree} {id : Int} (h : Den S.L t n T id) : KidOk S.L n id := by
  match n, T, h with
  | 0, .leaf b, h =>
    have h : id = if b then 1 else 0 := h
    exact .inl ⟨rfl, by cases b <;> simp at h <;> omega⟩
  | n + 1, .node a b c d, h =>
    obtain ⟨h2, x, h3, h4, h5, _⟩ := h
    exact .inr ⟨by omega, h2, x, h3, h4, h5⟩
/-! ### Room -/
theorem countP_lt {α : Type} {p q : α → Bool} : ∀ {l : List α} {a : α}, a ∈ l → (∀ x ∈ l, q x = true → p x = true) → p a = true → q a = false → l.countP q + 1 ≤ l.countP p
  | [], a, h, _, _, _ => by cases h
  | y :: l, a, h, hi, hp, hq => by
    rw [List.countP_cons, List.countP_cons]
    have hm : l.countP q ≤ l.countP p := List.countP_mono_left fun x hx hqx => hi x (List.mem_cons_of_mem _ hx) hqx
    rcases List.mem_cons.1 h with e | h
    · subst e
      rw [hp, hq]; simp; omega
    · have ih := countP_lt h (fun x hx => hi x (List.mem_cons_of_mem _ hx)) hp hq
      have h1 := hi y (List.mem_cons_self ..)
      cases hqy : q y
      · simp; omega
      · rw [h1 hqy]; simp; omega
def HasE (L : List (Option Ent)) (t n : Nat) : Prop := ∃ id, Den L t n (emptyT n) id
open Classical in
/-- How many empty squares a tenant has not. -/
noncomputable def miss (L : List (Option Ent)) (t : Nat) : Nat := (List.range 44).countP fun n => decide (¬ HasE L t (n + 1))
theorem miss_le (L : List (Option Ent)) (t : Nat) : miss L t ≤ 44 := by
  unfold miss
  refine Nat.le_trans List.countP_le_length ?_
  simp
theorem HasE.ext {L L' : List (Option Ent)} {t n : Nat} (he : ExtT t L L') (h : HasE L t n) : HasE L' t n := by obtain ⟨id, h⟩ := h; exact ⟨id, h.ext he⟩
theorem miss_ext {L L' : List (Option Ent)} {t : Nat} (he : ExtT t L L') : miss L' t ≤ miss L t := by
  unfold miss
  refine List.countP_mono_left fun n _ h => ?_
  simp only [decide_eq_true_eq] at h ⊢
  exact fun h2 => h (h2.ext he)
theorem miss_new {L L' : List (Option Ent)} {t n : Nat} (he : ExtT t L L') (hn : n < 44) (h0 : ¬ HasE L t (n + 1)) (h1 : HasE L' t (n + 1)) : miss L' t + 1 ≤ miss L t := by
  unfold miss
  refine countP_lt (a := n) (List.mem_range.2 hn) (fun x _ h => ?_) ?_ ?_
  · simp only [decide_eq_true_eq] at h ⊢
    exact fun h2 => h (h2.ext he)
  · simpa using h0
  · simpa using h1
/-- There is room for so many joins, but those of empty squares. -/
def Bud (t : Nat) (S : ArS) (c : Nat) : Prop := liveL S.L + miss S.L t + c ≤ S.room ∧ ((liveL S.L + miss S.L t + c : Nat) : Int) ≤ S.quo t
/-- What a piece of work for a tenant comes to: k joins at most that are not empty. -/
structure Res (U : Th → Prop) (t : Nat) (S S' : ArS) (bad bad' : Int) (k : Nat) : Prop where
  grew : GrewU U t S S'
  wf : Wf S'.L
  bud : ∀ c, Bud t S (c + k) → bad = 0 → bad' = 0 ∧ Bud t S' c
  stay : bad ≠ 0 → bad' = bad
  errs : bad = 0 → bad' = 0 ∨ bad' = 5 ∨ bad' = 9
  idle : bad ≠ 0 → S' = S
  lacks : bad = 0 → bad' = 9 → Lacks U t S'
  full : bad = 0 → bad' = 5 → FullA S'
theorem Res.refl {U : Th → Prop} {t : Nat} {S : ArS} {bad : Int} (wf : Wf S.L) : Res U t S S bad bad 0 := ⟨.refl, wf, fun _ h hb => ⟨hb, h⟩, fun _ => rfl, fun h => .inl h, fun _ => rfl, fun h1 h2 => by omega, fun h1 h2 => by omega⟩
theorem Res.trans {U : Th → Prop} {t : Nat} {S S1 S2 : ArS} {b0 b1 b2 : Int} {k l : Nat} (h : Res U t S S1 b0 b1 k) (g : Res U t S1 S2 b1 b2 l) : Res U t S S2 b0 b2 (k + l) := by
  refine ⟨h.grew.trans g.grew, g.wf, fun c hc hb => ?_, fun hb => ?_, fun hb => ?_, fun hb => (g.idle (by rw [h.stay hb]; exact hb)).trans (h.idle hb), fun hb h9 => ?_, fun hb h5 => ?_⟩
  · obtain ⟨e1, hc1⟩ := h.bud (c + l) (by rw [show c + l + k = c + (k + l) by omega]; exact hc) hb
    exact g.bud c hc1 e1
  · have e := h.stay hb
    rw [g.stay (by rw [e]; exact hb), e]
  · by_cases h1 : b1 = 0
    · exact g.errs h1
    · rw [g.stay h1]; exact h.errs hb
  · by_cases h1 : b1 = 0
    · exact g.lacks h1 h9
    · rw [g.idle h1]; exact h.lacks hb (by rw [← g.stay h1]; exact h9)
  · by_cases h1 : b1 = 0
    · exact g.full h1 h5
    · rw [g.idle h1]; exact h.full hb (by rw [← g.stay h1]; exact h5)
theorem Bud.less {t : Nat} {S : ArS} {c d : Nat} (h : Bud t S c) (hd : d ≤ c) : Bud t S d := ⟨by have := h.1; omega, by have := h.2; omega⟩
theorem Res.more {U : Th → Prop} {t : Nat} {S S1 : ArS} {b0 b1 : Int} {k l : Nat} (h : Res U t S S1 b0 b1 k) (hl : k ≤ l) : Res U t S S1 b0 b1 l := ⟨h.grew, h.wf, fun c hc hb => h.bud c (hc.less (by omega)) hb, h.stay, h.errs, h.idle, h.lacks, h.full⟩
theorem Res.nil {U : Th → Prop} {t : Nat} {S S1 : ArS} {b0 b1 : Int} {k : Nat} (h : Res U t S S1 b0 b1 k) (h1 : b1 = 0) : b0 = 0 := by
  by_cases e : b0 = 0
  · exact e
  · rw [h.stay e] at h1; exact h1
theorem Gave.others {S S' : ArS} {t s : Nat} {k : AKey} {lv va r e : Int} (h : Gave S t k lv va r e S') (hs : s ≠ t) {i : Nat} {x : Ent} (hx : atL S'.L i = some x) (hb : x.ma.testBit s = true) : ∃ y, atL S.L i = some y ∧ y.ma.testBit s = true := by
  rcases h with ⟨_, _, _, _, _, _, rfl⟩ | ⟨_, _, _, _, rfl⟩ | ⟨j, y, hk, _, _, _, _, rfl⟩ | ⟨_, _, S1, hS1, h⟩
  · exact ⟨x, hx, hb⟩
  · exact ⟨x, hx, hb⟩
  · unfold takeA at hx
    simp only at hx
    rw [atL_set (atL_lt hk.1)] at hx
    by_cases e : j = i
    · rw [if_pos e] at hx
      cases hx
      rcases bit_or hb with h1 | h1
      · exact ⟨y, by rw [← e]; exact hk.1, h1⟩
      · exact absurd h1 hs
    · rw [if_neg e] at hx
      exact ⟨x, hx, hb⟩
  · have h1 : ∀ x, atL S1.L i = some x → atL S.L i = some x := fun x hx => by
      rw [hS1] at hx
      split at hx
      · exact swept_at hx
      · exact hx
    rcases h with ⟨_, _, _, rfl⟩ | ⟨_, j, hL, _, _, rfl⟩
    · exact ⟨x, h1 x hx, hb⟩
    · rw [newA_at hL.2.2.1] at hx
      by_cases e : j = i
      · rw [if_pos e] at hx
        cases hx
        have hb' : (0 ||| 2 ^ t : Nat).testBit s = true := hb
        rcases bit_or hb' with h2 | h2
        · simp at h2
        · exact absurd h2 hs
      · rw [if_neg e] at hx
        exact ⟨x, h1 x hx, hb⟩
theorem Grew.others {S S' : ArS} {t s : Nat} (h : Grew t S S') (hs : s ≠ t) {i : Nat} {x : Ent} (hx : atL S'.L i = some x) (hb : x.ma.testBit s = true) : ∃ y, atL S.L i = some y ∧ y.ma.testBit s = true := by
  induction h generalizing x with
  | refl => exact ⟨x, hx, hb⟩
  | step _ g ih =>
    obtain ⟨y, h1, h2⟩ := g.others hs hx hb
    exact ih h1 h2
theorem JoinR.grew {S S' : ArS} {t : Nat} {q : Four} {r e : Int} (h : JoinR S t q r e S') : Grew t S S' := by
  unfold JoinR at h
  split at h
  · rw [h.2.2]; exact .refl
  · split at h
    · rw [h.2.2]; exact .refl
    · split at h
      · rw [h.2.2]; exact .refl
      · rw [Int.toNat_natCast] at h; exact Grew.refl.step h
theorem Gave.low {S S' : ArS} {t : Nat} {k : AKey} {lv va r e : Int} (h : Gave S t k lv va r e S') (ok : ArOk S) {j : Nat} (hj : j < 2) : atL S'.L j = none := by
  have h0 : atL S.L j = none := by
    rcases (show j = 0 ∨ j = 1 by omega) with rfl | rfl
    · exact ok.nil0
    · exact ok.nil1
  rcases h with ⟨i, x, _, _, _, _, rfl⟩ | ⟨_, _, _, _, rfl⟩ | ⟨i, x, hk, _, _, _, _, rfl⟩ | ⟨_, _, S1, hS1, hh⟩
  · exact h0
  · exact h0
  · unfold takeA
    simp only
    rw [atL_set (atL_lt hk.1)]
    split
    · next e =>
      have h1 := hk.1
      rw [e, h0] at h1; cases h1
    · exact h0
  · have h1 : atL S1.L j = none := by
      rw [hS1]
      split
      · cases hz : atL (sweptL S.L) j with
        | none => exact hz
        | some y =>
          have h2 := swept_at hz
          rw [h0] at h2; cases h2
      · exact h0
    rcases hh with ⟨_, _, _, rfl⟩ | ⟨_, i, hL, _, _, rfl⟩
    · exact h1
    · rw [newA_at hL.2.2.1, if_neg (by have := hL.1; omega)]; exact h1
theorem join_tree {U : Th → Prop} {S S' : ArS} {t n : Nat} {q : Four} {r e : Int} {Ta Tb Tc Td : Tree} (ok : ArOk S) (wf : Wf S.L) (ht : t < 64) (hn : n < 44) (h : JoinR S t q r e S') (ha : Den S.L t n Ta q.1) (hb : Den S.L t n Tb q.2.1) (hc : Den S.L t n Tc q.2.2.1) (hd : Den S.L t n Td q.2.2.2) (hU : U (.sq (.node Ta Tb Tc Td))) :
    Res U t S S' 0 e 1 ∧ (e = 0 → Den S'.L t (n + 1) (.node Ta Tb Tc Td) r) ∧ (e ≠ 0 → r = 0) ∧ (Ta = emptyT n → Tb = emptyT n → Tc = emptyT n → Td = emptyT n → Res U t S S' 0 e 0) := by
  have hown : ownAll S.L t q = true := by unfold ownAll; rw [ha.owns, hb.owns, hc.owns, hd.owns]; rfl
  have hlv : lvAll S.L q = true := by
    unfold lvAll
    rw [ha.lev ok, hb.lev ok, hc.lev ok, hd.lev ok, decide_eq_true (show (n : Int) < 44 by omega)]
    simp
  have hg : Gave S t (0, q) ((n : Int) + 1) 0 r e S' := by
    unfold JoinR at h
    rw [if_neg (by rw [tenB_in ht]; decide), Int.toNat_natCast, if_neg (by rw [hown]; decide), if_neg (by rw [hlv]; decide), ha.lev ok] at h
    exact h
  have hj : JoinOk S.L t ((n : Int) + 1) q := by
    have e1 : (n : Int) + 1 - 1 = n := by omega
    refine ⟨?_, ?_, ?_, ?_, ha.owns, hb.owns, hc.owns, hd.owns⟩ <;> rw [e1]
    · exact ha.kid ok
    · exact hb.kid ok
    · exact hc.kid ok
    · exact hd.kid ok
  have wf' := hg.wf wf hj
  have hroom := hg.room
  have hlive := hg.live
  have hext := hg.ext t
  have hkt : ∃ th, U th ∧ KeyT S.L t (0, q) th := ⟨_, hU, rfl, n, Ta, Tb, Tc, Td, rfl, ha, hb, hc, hd⟩
  have hgrew : GrewU U t S S' := GrewU.refl.step hg hkt (fun _ => by show (n : Int) + 1 = lvA S.L q.1 + 1; rw [ha.lev ok])
  have hlk : e = 9 → Lacks U t S' := fun he => hg.lacks hkt he
  have hfl : e = 5 → FullA S' := fun he => hg.full he
  have hcnt := countL_le S.L t
  have hquo : S'.quo t = S.quo t := by unfold ArS.quo; rw [hroom.2]
  have hden : e = 0 → Den S'.L t (n + 1) (.node Ta Tb Tc Td) r := fun he => by
    rcases hg.done with ⟨_, i, x, h1, h2, h3, h4, h5⟩ | ⟨_, h2⟩
    · have hkey := h3
      unfold Ent.key at hkey
      simp only [Prod.mk.injEq] at hkey
      obtain ⟨k0, k1⟩ := hkey
      have k1a : x.a = q.1 := congrArg (fun p => p.1) k1
      have k1b : x.b = q.2.1 := congrArg (fun p => p.2.1) k1
      have k1c : x.c = q.2.2.1 := congrArg (fun p => p.2.2.1) k1
      have k1d : x.d = q.2.2.2 := congrArg (fun p => p.2.2.2) k1
      have hlvx : x.lv = ((n + 1 : Nat) : Int) := by
        rcases h5 with h5 | ⟨y, y1, y2, y3⟩
        · rw [h5]; omega
        · have hkey := y2
          unfold Ent.key at hkey
          simp only [Prod.mk.injEq] at hkey
          have hw := (wf i y y1 hkey.1).a
          have hya : y.a = q.1 := congrArg (fun p => p.1) hkey.2
          rw [hya] at hw
          have hk := ha.kid ok
          rcases hw with ⟨w1, w2⟩ | ⟨w1, w2, z, w3, w4, w5⟩
          · rcases hk with ⟨v1, _⟩ | ⟨_, v2, _⟩
            · rw [← y3]; omega
            · omega
          · rcases hk with ⟨_, v2⟩ | ⟨v1, v2, z', v3, v4, v5⟩
            · omega
            · rw [w3] at v3; cases v3
              rw [← y3]; omega
      have h2i : 2 ≤ i := by
        rcases Nat.lt_or_ge i 2 with e | e
        · rw [hg.low ok e] at h2; cases h2
        · exact e
      refine ⟨by omega, x, by rw [h1, Int.toNat_natCast]; exact h2, k0, hlvx, h4, by rw [k1a]; exact ha.ext hext, by rw [k1b]; exact hb.ext hext, by rw [k1c]; exact hc.ext hext, by rw [k1d]; exact hd.ext hext⟩
    · rcases h2 with ⟨h2, _⟩ | ⟨h2, _⟩ <;> omega
  have herr : e = 0 ∨ e = 5 ∨ e = 9 := by
    rcases hg.done with ⟨h1, _⟩ | ⟨_, ⟨h1, _⟩ | ⟨h1, _⟩⟩
    · exact .inl h1
    · exact .inr (.inr h1)
    · exact .inr (.inl h1)
  have hok : liveL S.L < S.room → (liveL S.L : Int) < S.quo t → e = 0 := fun h1 h2 => by
    rcases hg.done with ⟨h, _⟩ | ⟨_, ⟨_, h⟩ | ⟨_, h⟩⟩
    · exact h
    · exfalso; omega
    · exfalso; omega
  have hmx := miss_ext hext
  refine ⟨⟨hgrew, wf', fun c hc' _ => ?_, fun h => absurd rfl h, fun _ => herr, fun h => absurd rfl h, fun _ => hlk, fun _ => hfl⟩, hden, fun he => ?_, fun a1 a2 a3 a4 => ⟨hgrew, wf', fun c hc' _ => ?_, fun h => absurd rfl h, fun _ => herr, fun h => absurd rfl h, fun _ => hlk, fun _ => hfl⟩⟩
  · obtain ⟨c1, c2⟩ := hc'
    refine ⟨hok (by omega) (by omega), ?_, ?_⟩
    · rw [hroom.1]; omega
    · rw [hquo]; omega
  · rcases hg.done with ⟨h1, _⟩ | ⟨h1, _⟩
    · exact absurd h1 he
    · exact h1
  · obtain ⟨c1, c2⟩ := hc'
    subst a1 a2 a3 a4
    by_cases hE : HasE S.L t (n + 1)
    · obtain ⟨id, hid⟩ := hE
      obtain ⟨h2, x, h3, h4, h5, h6, xa, xb, xc, xd⟩ := hid
      have hkx : HasKey S.L (0, q) id.toNat x := ⟨h3, by
        unfold Ent.key
        rw [h4, Den.inj ok xa ha, Den.inj ok xb hb, Den.inj ok xc hc, Den.inj ok xd hd]⟩
      have hsame : e = 0 ∧ S' = S := by
        rcases hg with ⟨i, y, _, _, _, he0, hS⟩ | ⟨hn, _⟩ | ⟨i, y, hk, hf, _⟩ | ⟨hn, _⟩
        · exact ⟨he0, hS⟩
        · have := hn _ _ hkx; rw [h6] at this; cases this
        · have e1 := ok.uniq _ _ _ _ hkx.1 hk.1 (hkx.2.trans hk.2.symm)
          have hk1 := hk.1
          rw [← e1, h3] at hk1
          cases hk1
          rw [h6] at hf; cases hf
        · exact absurd hkx (hn _ _)
      rw [hsame.2]
      exact ⟨hsame.1, c1, c2⟩
    · have hm1 : 1 ≤ miss S.L t := by
        unfold miss
        rw [Nat.one_le_iff_ne_zero, ← Nat.pos_iff_ne_zero, List.countP_pos_iff]
        exact ⟨n, List.mem_range.2 hn, by simpa using hE⟩
      have h0 : e = 0 := hok (by omega) (by omega)
      have := miss_new hext hn hE ⟨r, hden h0⟩
      refine ⟨h0, ?_, ?_⟩
      · rw [hroom.1]; omega
      · rw [hquo]; omega
end Go.Proofs.Ytabhpbkkjijfjaa
