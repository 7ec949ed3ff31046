/-
  Notes that are true: a square's note is the square's middle some steps later; plain.
-/
import Derived.Test.YtabhpbkkjijfjaaZLeapStepsQWf
import Derived.Test.YtabhpbkkjijfjaaZLeapSteps31
namespace Go.Proofs.Ytabhpbkkjijfjaa
set_option maxRecDepth 100000

/-- A number is a square of a level, and this tree, whosesoever it is. -/
def DenX (L : List (Option Ent)) : Nat → Tree → Int → Prop
  | 0, .leaf b, id => id = if b then 1 else 0
  | n + 1, .node a b c d, id => 2 ≤ id ∧ ∃ x, atL L id.toNat = some x ∧ x.k = 0 ∧ x.lv = ((n + 1 : Nat) : Int) ∧ DenX L n a x.a ∧ DenX L n b x.b ∧ DenX L n c x.c ∧ DenX L n d x.d
  | 0, .node _ _ _ _, _ => False
  | _ + 1, .leaf _, _ => False
theorem Den.x {L : List (Option Ent)} {t : Nat} : ∀ {n : Nat} {T : Tree} {id : Int}, Den L t n T id → DenX L n T id
  | 0, .leaf _, _, h => h
  | 0, .node _ _ _ _, _, h => h.elim
  | _ + 1, .leaf _, _, h => h.elim
  | n + 1, .node a b c d, id, h => by
    obtain ⟨h2, x, h3, h4, h5, _, ha, hb, hc, hd⟩ := h
    exact ⟨h2, x, h3, h4, h5, ha.x, hb.x, hc.x, hd.x⟩
theorem owns_bit {L : List (Option Ent)} {t : Nat} {id : Int} {x : Ent} (ho : ownsA L t id 0 = true) (h2 : 2 ≤ id) (hx : atL L id.toNat = some x) : x.ma.testBit t = true := by
  unfold ownsA at ho
  rw [hx, decide_eq_false (show ¬ id = 0 by omega), decide_eq_false (show ¬ id = 1 by omega), decide_eq_true h2] at ho
  simp at ho
  exact ho.2
theorem DenX.den {L : List (Option Ent)} (wf : Wf L) {t : Nat} : ∀ {n : Nat} {T : Tree} {id : Int}, DenX L n T id → ownsA L t id 0 = true → Den L t n T id
  | 0, .leaf _, _, h, _ => h
  | 0, .node _ _ _ _, _, h, _ => h.elim
  | _ + 1, .leaf _, _, h, _ => h.elim
  | n + 1, .node a b c d, id, h, ho => by
    obtain ⟨h2, x, h3, h4, h5, ha, hb, hc, hd⟩ := h
    have hbit := owns_bit ho h2 h3
    obtain ⟨o1, o2, o3, o4⟩ := (wf _ x h3 h4).own t hbit
    exact ⟨h2, x, h3, h4, h5, hbit, ha.den wf o1, hb.den wf o2, hc.den wf o3, hd.den wf o4⟩
theorem DenX.same {L : List (Option Ent)} : ∀ {n m : Nat} {T U : Tree} {id : Int}, DenX L n T id → DenX L m U id → n = m ∧ T = U
  | 0, 0, .leaf a, .leaf b, id, h, k => by
    have h : id = if a then 1 else 0 := h
    have k : id = if b then 1 else 0 := k
    refine ⟨rfl, ?_⟩
    cases a <;> cases b <;> simp at h k <;> first | rfl | omega
  | 0, _, .node _ _ _ _, _, _, h, _ => h.elim
  | _, 0, _, .node _ _ _ _, _, _, k => k.elim
  | _ + 1, _, .leaf _, _, _, h, _ => h.elim
  | _, _ + 1, _, .leaf _, _, _, k => k.elim
  | 0, m + 1, .leaf a, .node _ _ _ _, id, h, k => by
    have h : id = if a then 1 else 0 := h
    have := k.1
    cases a <;> simp at h <;> omega
  | n + 1, 0, .node _ _ _ _, .leaf b, id, h, k => by
    have k : id = if b then 1 else 0 := k
    have := h.1
    cases b <;> simp at k <;> omega
  | n + 1, m + 1, .node a b c d, .node a' b' c' d', id, h, k => by
    obtain ⟨_, x, h3, _, _, ha, hb, hc, hd⟩ := h
    obtain ⟨_, y, k3, _, _, ka, kb, kc, kd⟩ := k
    rw [h3] at k3; cases k3
    obtain ⟨rfl, rfl⟩ := ha.same ka
    obtain ⟨_, rfl⟩ := hb.same kb
    obtain ⟨_, rfl⟩ := hc.same kc
    obtain ⟨_, rfl⟩ := hd.same kd
    exact ⟨rfl, rfl⟩
theorem DenX.inj {S : ArS} (ok : ArOk S) : ∀ {n : Nat} {T : Tree} {p q : Int}, DenX S.L n T p → DenX S.L n T q → p = q
  | 0, .leaf _, _, _, h, k => by
    have h := id h; have k := id k
    unfold DenX at h k
    rw [h, k]
  | 0, .node _ _ _ _, _, _, h, _ => h.elim
  | _ + 1, .leaf _, _, _, h, _ => h.elim
  | n + 1, .node a b c d, p, q, h, k => by
    obtain ⟨h2, x, h3, h4, _, ha, hb, hc, hd⟩ := h
    obtain ⟨k2, y, k3, k4, _, ka, kb, kc, kd⟩ := k
    have e : x.key = y.key := by
      unfold Ent.key
      rw [h4, k4, DenX.inj ok ha ka, DenX.inj ok hb kb, DenX.inj ok hc kc, DenX.inj ok hd kd]
    have := ok.uniq _ _ x y h3 k3 e
    omega
theorem DenX.pres {L L' : List (Option Ent)} (hp : PresT L L') : ∀ {n : Nat} {T : Tree} {id : Int}, DenX L n T id → DenX L' n T id
  | 0, .leaf _, _, h => h
  | 0, .node _ _ _ _, _, h => h.elim
  | _ + 1, .leaf _, _, h => h.elim
  | n + 1, .node a b c d, id, h => by
    obtain ⟨h2, x, h3, h4, h5, ha, hb, hc, hd⟩ := h
    obtain ⟨y, g1, g2, g3⟩ := hp _ x h3
    obtain ⟨e1, e2, e3, e4, e5⟩ := key_parts g2
    exact ⟨h2, y, g1, e1.trans h4, g3.trans h5, by rw [e2]; exact ha.pres hp, by rw [e3]; exact hb.pres hp, by rw [e4]; exact hc.pres hp, by rw [e5]; exact hd.pres hp⟩
/-- What was a square before has its tree of before. -/
theorem DenX.back {L L' : List (Option Ent)} (hp : PresT L L') {n m : Nat} {T T0 : Tree} {id : Int} (h0 : DenX L m T0 id) (h : DenX L' n T id) : DenX L n T id := by
  obtain ⟨rfl, rfl⟩ := h.same (h0.pres hp)
  exact h0
theorem swept_pres_back {L : List (Option Ent)} : PresT (sweptL L) L := fun _ x h => ⟨x, swept_at h, rfl, rfl⟩
/-- A note that is true: its square and its value are squares, everybody's whose the note is; the value is what the rule makes of the square. -/
structure NoteE (L : List (Option Ent)) (x : Ent) : Prop where
  a : ∃ n T, DenX L n T x.a
  v : ∃ n T, DenX L n T x.va
  own : ∀ s, x.ma.testBit s = true → ownsA L s x.a 0 = true ∧ ownsA L s x.va 0 = true
  ok : ∀ (B Lv : Int) (j n : Nat) (T : Tree), 0 ≤ B → B < 512 → 0 ≤ Lv → Lv < 512 → x.b = codeR B Lv → x.c = (j : Int) → j ≤ n → DenX L (n + 2) T x.a → DenX L (n + 1) (leapT B Lv n j T) x.va
def NoteI (L : List (Option Ent)) : Prop := ∀ i x, atL L i = some x → x.k = 1 → NoteE L x
theorem NoteE.up {L L' : List (Option Ent)} {x y : Ent} (h : NoteE L x) (hp : PresT L L') (he : ∀ s, ExtT s L L') (hk : y.key = x.key) (hv : y.va = x.va) (ho : ∀ s, y.ma.testBit s = true → x.ma.testBit s = true ∨ (ownsA L s x.a 0 = true ∧ ownsA L s x.va 0 = true)) : NoteE L' y := by
  obtain ⟨_, e2, e3, e4, _⟩ := key_parts hk
  obtain ⟨n1, T1, d1⟩ := h.a
  obtain ⟨n2, T2, d2⟩ := h.v
  refine ⟨⟨n1, T1, by rw [e2]; exact d1.pres hp⟩, ⟨n2, T2, by rw [hv]; exact d2.pres hp⟩, fun s hs => ?_, fun B Lv j n T g1 g2 g3 g4 hb hc hj hd => ?_⟩
  · rw [e2, hv]
    have ho' : ownsA L s x.a 0 = true ∧ ownsA L s x.va 0 = true := by
      rcases ho s hs with h1 | h1
      · exact h.own s h1
      · exact h1
    exact ⟨own_ext (he s) ho'.1, own_ext (he s) ho'.2⟩
  · rw [e2] at hd
    rw [hv]
    exact (h.ok B Lv j n T g1 g2 g3 g4 (by rw [← e3]; exact hb) (by rw [← e4]; exact hc) hj (d1.back hp hd)).pres hp
theorem note_swept {L : List (Option Ent)} (wf : Wf L) (h : NoteI L) : NoteI (sweptL L) := fun i x hx hk => by
  have h1 := swept_at hx
  have hm : x.ma ≠ 0 := swept_live hx
  obtain ⟨s, hs⟩ := Nat.exists_testBit_of_ne_zero hm
  have hn := h i x h1 hk
  have he := fun s => swept_ext s L
  obtain ⟨o1, o2⟩ := hn.own s hs
  obtain ⟨n1, T1, d1⟩ := hn.a
  obtain ⟨n2, T2, d2⟩ := hn.v
  refine ⟨⟨n1, T1, ((d1.den wf o1).ext (he s)).x⟩, ⟨n2, T2, ((d2.den wf o2).ext (he s)).x⟩, fun r hr => ?_, fun B Lv j n T g1 g2 g3 g4 hb hc hj hd => ?_⟩
  · obtain ⟨p1, p2⟩ := hn.own r hr
    exact ⟨own_ext (he r) p1, own_ext (he r) p2⟩
  · exact (((hn.ok B Lv j n T g1 g2 g3 g4 hb hc hj (hd.pres swept_pres_back)).den wf o2).ext (he s)).x
/-- A new note is true. -/
structure NewNote (L : List (Option Ent)) (t : Nat) (k : AKey) (va : Int) : Prop where
  own : ownsA L t k.2.1 0 = true ∧ ownsA L t va 0 = true
  a : ∃ n T, DenX L n T k.2.1
  v : ∃ n T, DenX L n T va
  ok : ∀ (B Lv : Int) (j n : Nat) (T : Tree), 0 ≤ B → B < 512 → 0 ≤ Lv → Lv < 512 → k.2.2.1 = codeR B Lv → k.2.2.2.1 = (j : Int) → j ≤ n → DenX L (n + 2) T k.2.1 → DenX L (n + 1) (leapT B Lv n j T) va
theorem NewNote.swept {L : List (Option Ent)} {t : Nat} {k : AKey} {va : Int} (h : NewNote L t k va) (wf : Wf L) : NewNote (sweptL L) t k va := by
  have he := swept_ext t L
  obtain ⟨n1, T1, d1⟩ := h.a
  obtain ⟨n2, T2, d2⟩ := h.v
  exact ⟨⟨own_ext he h.own.1, own_ext he h.own.2⟩, ⟨n1, T1, ((d1.den wf h.own.1).ext he).x⟩, ⟨n2, T2, ((d2.den wf h.own.2).ext he).x⟩, fun B Lv j n T g1 g2 g3 g4 hb hc hj hd => (((h.ok B Lv j n T g1 g2 g3 g4 hb hc hj (hd.pres swept_pres_back)).den wf h.own.2).ext he).x⟩
/-- A thing that is given keeps notes true. -/
theorem Gave.notes {S S' : ArS} {t : Nat} {k : AKey} {lv va r e : Int} (h : Gave S t k lv va r e S') (wf : Wf S.L) (hn : NoteI S.L) (hj : k.1 = 1 → NewNote S.L t k va ∧ ∀ i x, HasKey S.L k i x → x.va = va) : NoteI S'.L := by
  rcases h with ⟨i, x, _, _, _, _, rfl⟩ | ⟨_, _, _, _, rfl⟩ | ⟨i, x, hk, _, _, _, _, rfl⟩ | ⟨_, _, S1, hS1, h⟩
  · exact hn
  · exact hn
  · intro j y hy hy1
    have he := fun s => take_ext (t := t) hk.1 s
    have hp := take_pres (t := t) hk.1
    have hy' := hy
    unfold takeA at hy'
    simp only at hy'
    rw [atL_set (atL_lt hk.1)] at hy'
    by_cases e : i = j
    · rw [if_pos e] at hy'
      cases hy'
      have hkey := hk.2
      have hk1 : k.1 = 1 := by rw [← hkey]; exact hy1
      obtain ⟨nn, hva⟩ := hj hk1
      refine (hn i x hk.1 hy1).up hp he rfl rfl fun s hs => ?_
      rcases bit_or hs with h1 | h1
      · exact .inl h1
      · subst h1
        right
        rw [hva i x hk]
        have e2 : x.a = k.2.1 := by rw [← hkey]; rfl
        rw [e2]
        exact nn.own
    · rw [if_neg e] at hy'
      exact (hn j y hy' hy1).up hp he rfl rfl fun s hs => .inl hs
  · have h1 : NoteI S1.L ∧ (k.1 = 1 → NewNote S1.L t k va) := by
      rw [hS1]
      split
      · exact ⟨note_swept wf hn, fun e => (hj e).1.swept wf⟩
      · exact ⟨hn, fun e => (hj e).1⟩
    obtain ⟨hn1, hj1⟩ := h1
    rcases h with ⟨_, _, _, rfl⟩ | ⟨_, i, hL, _, _, rfl⟩
    · exact hn1
    · intro j y hy hy1
      have he := fun s => new_ext (t := t) (k := k) (lv := lv) (va := va) hL s
      have hp := new_pres (t := t) (k := k) (lv := lv) (va := va) hL
      have hy' := hy
      rw [newA_at hL.2.2.1] at hy'
      by_cases e : i = j
      · rw [if_pos e] at hy'
        cases hy'
        have nn := hj1 hy1
        have hx : NoteE S1.L (entOf k lv va 0) := ⟨nn.a, nn.v, fun s hs => by simp [entOf] at hs, nn.ok⟩
        refine hx.up hp he rfl rfl fun s hs => ?_
        have hs' : (0 ||| 2 ^ t : Nat).testBit s = true := hs
        rcases bit_or hs' with h1 | h1
        · simp at h1
        · subst h1; exact .inr nn.own
      · rw [if_neg e] at hy'
        exact (hn1 j y hy' hy1).up hp he rfl rfl fun s hs => .inl hs
/-- A note that is given keeps squares as they are. -/
theorem Gave.wf_note {S S' : ArS} {t : Nat} {k : AKey} {lv va r e : Int} (h : Gave S t k lv va r e S') (wf : Wf S.L) (hk1 : k.1 ≠ 0) : Wf S'.L := by
  rcases h with ⟨i, x, _, _, _, _, rfl⟩ | ⟨_, _, _, _, rfl⟩ | ⟨i, x, hk, _, _, _, _, rfl⟩ | ⟨_, _, S1, hS1, h⟩
  · exact wf
  · exact wf
  · intro j y hy hy0
    have he := fun s => take_ext (t := t) hk.1 s
    have hp := take_pres (t := t) hk.1
    have hy' := hy
    unfold takeA at hy'
    simp only at hy'
    rw [atL_set (atL_lt hk.1)] at hy'
    by_cases e : i = j
    · rw [if_pos e] at hy'
      cases hy'
      exact absurd (by rw [← hk.2]; exact hy0) hk1
    · rw [if_neg e] at hy'
      exact (wf j y hy' hy0).up hp he rfl rfl fun s hs => .inl hs
  · have h1 : Wf S1.L := by
      rw [hS1]
      split
      · exact wf_swept wf
      · exact wf
    rcases h with ⟨_, _, _, rfl⟩ | ⟨_, i, hL, _, _, rfl⟩
    · exact h1
    · intro j y hy hy0
      have he := fun s => new_ext (t := t) (k := k) (lv := lv) (va := va) hL s
      have hp := new_pres (t := t) (k := k) (lv := lv) (va := va) hL
      have hy' := hy
      rw [newA_at hL.2.2.1] at hy'
      by_cases e : i = j
      · rw [if_pos e] at hy'
        cases hy'
        exact absurd hy0 hk1
      · rw [if_neg e] at hy'
        exact (h1 j y hy' hy0).up hp he rfl rfl fun s hs => .inl hs
theorem Gave.low2 {S S' : ArS} {t : Nat} {k : AKey} {lv va r e : Int} (h : Gave S t k lv va r e S') (h01 : atL S.L 0 = none ∧ atL S.L 1 = none) : atL S'.L 0 = none ∧ atL S'.L 1 = none := by
  have key : ∀ j, j < 2 → atL S.L j = none → atL S'.L j = none := fun j hj h0 => by
    rcases h with ⟨i, x, _, _, _, _, rfl⟩ | ⟨_, _, _, _, rfl⟩ | ⟨i, x, hk, _, _, _, _, rfl⟩ | ⟨_, _, S1, hS1, hh⟩
    · exact h0
    · exact h0
    · unfold takeA
      simp only
      rw [atL_set (atL_lt hk.1)]
      split
      · next e =>
        have h1 := hk.1
        rw [e, h0] at h1; cases h1
      · exact h0
    · have h1 : atL S1.L j = none := by
        rw [hS1]
        split
        · cases hz : atL (sweptL S.L) j with
          | none => exact hz
          | some y =>
            have h2 := swept_at hz
            rw [h0] at h2; cases h2
        · exact h0
      rcases hh with ⟨_, _, _, rfl⟩ | ⟨_, i, hL, _, _, rfl⟩
      · exact h1
      · rw [newA_at hL.2.2.1, if_neg (by have := hL.1; omega)]; exact h1
  exact ⟨key 0 (by omega) h01.1, key 1 (by omega) h01.2⟩
theorem den_lev2 {L : List (Option Ent)} (h01 : atL L 0 = none ∧ atL L 1 = none) {t : Nat} : ∀ {n : Nat} {T : Tree} {id : Int}, Den L t n T id → lvA L id = n
  | 0, .leaf b, id, h => by
    have h : id = if b then 1 else 0 := h
    have : id.toNat = 0 ∨ id.toNat = 1 := by cases b <;> simp at h <;> omega
    unfold lvA
    rcases this with e | e
    · rw [e, h01.1]; rfl
    · rw [e, h01.2]; rfl
  | 0, .node _ _ _ _, _, h => h.elim
  | _ + 1, .leaf _, _, h => h.elim
  | n + 1, .node a b c d, id, h => by
    obtain ⟨h2, x, h3, h4, h5, h6, _⟩ := h
    unfold lvA
    rw [h3]; exact h5
theorem den_kid2 {L : List (Option Ent)} {t n : Nat} {T : Tree} {id : Int} (h : Den L t n T id) : KidOk L n id := by
  match n, T, h with
  | 0, .leaf b, h =>
    have h : id = if b then 1 else 0 := h
    exact .inl ⟨rfl, by cases b <;> simp at h <;> omega⟩
  | n + 1, .node a b c d, h =>
    obtain ⟨h2, x, h3, h4, h5, _⟩ := h
    exact .inr ⟨by omega, h2, x, h3, h4, h5⟩
/-- What gives of squares keep true. -/
theorem GrewU.notes {U : Th → Prop} {t : Nat} {S S' : ArS} (g : GrewU U t S S') (hU : ∀ T code j, ¬ U (.note T code j)) (h01 : atL S.L 0 = none ∧ atL S.L 1 = none) (wf : Wf S.L) (hn : NoteI S.L) : (atL S'.L 0 = none ∧ atL S'.L 1 = none) ∧ Wf S'.L ∧ NoteI S'.L := by
  induction g with
  | refl => exact ⟨h01, wf, hn⟩
  | @step S1 S2 k lv va r e g0 g hk hl ih =>
    obtain ⟨i1, i2, i3⟩ := ih
    obtain ⟨th, h1, h2⟩ := hk
    cases th with
    | note T code j => exact absurd h1 (hU T code j)
    | sq T =>
      obtain ⟨hk0, n, a, b, c, d, hT, ha, hb, hc, hd⟩ := h2
      have e1 : lv - 1 = (n : Int) := by rw [hl hk0, den_lev2 i1 ha]; omega
      have hj : JoinOk S1.L t lv k.2 := ⟨by rw [e1]; exact den_kid2 ha, by rw [e1]; exact den_kid2 hb, by rw [e1]; exact den_kid2 hc, by rw [e1]; exact den_kid2 hd, ha.owns, hb.owns, hc.owns, hd.owns⟩
      have hkk : k = (0, k.2) := by rw [← hk0]
      rw [hkk] at g
      exact ⟨g.low2 i1, g.wf i2 hj, g.notes i2 i3 fun e => absurd (show (0 : Int) = 1 from e) (by decide)⟩
end Go.Proofs.Ytabhpbkkjijfjaa
