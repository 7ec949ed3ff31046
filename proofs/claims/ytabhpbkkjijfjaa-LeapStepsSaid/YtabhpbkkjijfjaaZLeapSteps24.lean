/-
  quad's empty squares; quad.Empty; A list of cells cut into the four quarters of a square: plain, and in memory.
-/
import Derived.Test.YtabhpbkkjijfjaaZLeapStepsQHand
import Derived.Test.YtabhpbkkjijfjaaZLeapStepsQWf
namespace Go.Proofs.Ytabhpbkkjijfjaa
set_option maxRecDepth 100000
open Go.RowKit

/-- What a hand's piece of work comes to: a number, room for k more joins wanted; the number is a square of a level, this tree. -/
def Made (U : Th → Prop) (t : Nat) (S : ArS) (bad : Int) (k n : Nat) (T : Tree) (S' : ArS) (bad' : Int) (v : Value) : Prop :=
  ∃ r, v = .int .i64 r ∧ I64 r ∧ Res U t S S' bad bad' k ∧ (bad' = 0 → Den S'.L t n T r)
theorem hjoin_tree {U : Th → Prop} (hb b t : Nat) (bad : Int) (ty : TypeId) (rest : Option Value) (S : ArS) (F : Nat → Prop) (q : Four) (n : Nat) (Ta Tb Tc Td : Tree) (w : World) (h : IsAr b S w F) (wf : Wf S.L) (hh : HandAt hb b t bad ty rest w) (hn : ¬ F hb) (hq : I64 q.1 ∧ I64 q.2.1 ∧ I64 q.2.2.1 ∧ I64 q.2.2.2)
    (ht : t < 64) (h44 : n < 44) (hd : bad = 0 → Den S.L t n Ta q.1 ∧ Den S.L t n Tb q.2.1 ∧ Den S.L t n Tc q.2.2.1 ∧ Den S.L t n Td q.2.2.2) (hU : bad = 0 → U (.sq (.node Ta Tb Tc Td))) :
    Calls Try.prog 30 #[.pointer (some ⟨hb, 0, none⟩), fourV q] w (HMut w F hb b t ty rest fun S' bad' v => Made U t S bad 1 (n + 1) (.node Ta Tb Tc Td) S' bad' v ∧ (Ta = emptyT n → Tb = emptyT n → Tc = emptyT n → Td = emptyT n → Made U t S bad 0 (n + 1) (.node Ta Tb Tc Td) S' bad' v)) := by
  refine (hjoin_any hb b t bad ty rest S F q w h hh hn hq).mono ?_
  rintro e w' ⟨S', bad', v, F', rfl, ⟨r, rfl, h1, h2⟩, h3, h4, h5, h6⟩
  refine ⟨S', bad', _, F', rfl, ?_, h3, h4, h5, h6⟩
  by_cases hb0 : bad = 0
  · obtain ⟨da, db, dc, dd⟩ := hd hb0
    obtain ⟨j1, j2, j3, j4⟩ := join_tree h.ok wf ht h44 (h2 hb0) da db dc dd (hU hb0)
    have hr : I64 r := by
      by_cases hb1 : bad' = 0
      · exact (j2 hb1).i64 h3.ok
      · rw [j3 hb1]; unfold I64; omega
    rw [hb0]
    exact ⟨⟨r, rfl, hr, j1, j2⟩, fun a1 a2 a3 a4 => ⟨r, rfl, hr, j4 a1 a2 a3 a4, j2⟩⟩
  · obtain ⟨e1, e2, e3⟩ := h1 hb0
    subst e1 e2 e3
    have hr : I64 0 := by unfold I64; omega
    exact ⟨⟨0, rfl, hr, (Res.refl wf).more (Nat.zero_le _), fun h => absurd h hb0⟩, fun _ _ _ _ => ⟨0, rfl, hr, Res.refl wf, fun h => absurd h hb0⟩⟩
/-- The state of a hand's work in memory. -/
def HState (w : World) (F : Nat → Prop) (hb b t : Nat) (ty : TypeId) (rest : Option Value) (S' : ArS) (bad' : Int) (F' : Nat → Prop) (w' : World) : Prop :=
  IsAr b S' w' F' ∧ HandAt hb b t bad' ty rest w' ∧ (∀ i, F' i → F i ∨ w.heap.size ≤ i) ∧ Keeps (fun i => F i ∨ i = hb) w w'
theorem HState.refl {w : World} {F : Nat → Prop} {hb b t : Nat} {ty : TypeId} {rest : Option Value} {S : ArS} {bad : Int} (h : IsAr b S w F) (hh : HandAt hb b t bad ty rest w) : HState w F hb b t ty rest S bad F w := ⟨h, hh, fun _ hi => .inl hi, Keeps.refl _ _⟩
theorem HState.out {w w' : World} {F F' : Nat → Prop} {hb b t : Nat} {ty : TypeId} {rest : Option Value} {S' : ArS} {bad' : Int} (h : HState w F hb b t ty rest S' bad' F' w') (hn : ¬ F hb) (hlt : hb < w.heap.size) : ¬ F' hb := fun e => by
  rcases h.2.2.1 hb e with h1 | h1
  · exact hn h1
  · omega
theorem HState.trans {w w1 w2 : World} {F F1 F2 : Nat → Prop} {hb b t : Nat} {ty : TypeId} {rest : Option Value} {S1 S2 : ArS} {b1 b2 : Int} (h : HState w F hb b t ty rest S1 b1 F1 w1) (g : HState w1 F1 hb b t ty rest S2 b2 F2 w2) : HState w F hb b t ty rest S2 b2 F2 w2 :=
  ⟨g.1, g.2.1, fun i hi => (g.2.2.1 i hi).elim (fun h1 => h.2.2.1 i h1) (fun h1 => .inr (Nat.le_trans h.2.2.2.size h1)), h.2.2.2.trans g.2.2.2 fun i hi hh => by
    rcases hh with h1 | h1
    · rcases h.2.2.1 i h1 with h2 | h2
      · exact .inl h2
      · omega
    · exact .inr h1⟩
theorem HState.below {w w1 w2 : World} {F F1 : Nat → Prop} {hb b t : Nat} {ty : TypeId} {rest : Option Value} {S1 : ArS} {b1 : Int} (h : HState w F hb b t ty rest S1 b1 F1 w1) (g : Below w1.heap.size w1 w2) : HState w F hb b t ty rest S1 b1 F1 w2 :=
  ⟨h.1.below g, h.2.1.keep (g.block hb h.2.1.lt), h.2.2.1, h.2.2.2.below g⟩
set_option maxHeartbeats 2000000 in
set_option maxRecDepth 100000 in
theorem empty_any {U : Th → Prop} (hb b t : Nat) (bad : Int) (ty : TypeId) (rest : Option Value) (S : ArS) (F : Nat → Prop) (level : Nat) (w : World) (h : IsAr b S w F) (wf : Wf S.L) (hh : HandAt hb b t bad ty rest w) (hn : ¬ F hb) (ht : t < 64) (h44 : level ≤ 44) (hU : ∀ k, k < level → U (.sq (emptyT (k + 1)))) :
    Calls Try.prog 43 #[.pointer (some ⟨hb, 0, none⟩), .int .i64 level] w (HMut w F hb b t ty rest fun S' bad' v => Made U t S bad 0 level (emptyT level) S' bad' v) := by
  have hlt := hh.lt
  have H0 : Aside (HState w F hb b t ty rest S bad F w) := HState.refl h hh
  have R0 := Lib.hid (show Res U t S S bad bad 0 from Res.refl wf)
  have HU := Lib.hid hU
  clear h hh wf hU
  go_enter Try.func43, Try.ntmps43
  go_wp2_with fail
  go_loopw [5, 7] (fun iv kv ws => ∃ (k : Nat) (id : Int) (S1 : ArS) (b1 : Int) (F1 : Nat → Prop), iv = .int .i64 id ∧ kv = .int .i64 k ∧ k ≤ level ∧ I64 id ∧ Aside (HState w F hb b t ty rest S1 b1 F1 ws) ∧ Aside (Res U t S S1 bad b1 0) ∧ Aside (b1 = 0 → Den S1.L t k (emptyT k) id)) (fun _ kv _ => level - (intOf kv).toNat)
  case atStart => exact ⟨0, 0, S, bad, F, rfl, rfl, Nat.zero_le _, by unfold I64; omega, H0, R0.out, fun _ => rfl⟩
  case round =>
    obtain ⟨k, id, S1, b1, F1, rfl, rfl, hk, h64, HS, HR, HD⟩ := hrel
    have HI := Lib.hid h64
    clear h64
    by_cases hkl : k < level
    · have t1 : decide ((k : Int) < (level : Int)) = true := decide_eq_true (by omega)
      have t2 : decide (k < level) = true := decide_eq_true hkl
      have HJ := Lib.hid (hjoin_tree hb b t b1 ty rest S1 F1 (id, id, id, id) k (emptyT k) (emptyT k) (emptyT k) (emptyT k) wr HS.out.1 HR.out.wf HS.out.2.1 (HS.out.out hn hlt) ⟨HI.out, HI.out, HI.out, HI.out⟩ ht (by omega) (fun hb0 => ⟨HD.out hb0, HD.out hb0, HD.out hb0, HD.out hb0⟩) (fun _ => HU.out k hkl))
      unfold fourV at HJ
      go_wp2_with fail
      refine HJ.out.mono ?_
      rintro e w1 ⟨S2, b2, v, F2, rfl, ⟨_, hm⟩, g1, g2, g3, g4⟩
      obtain ⟨r, rfl, hr, hres, hden⟩ := hm (by trivial) (by trivial) (by trivial) (by trivial)
      have HS2 : Aside (HState w F hb b t ty rest S2 b2 F2 w1) := HS.out.trans ⟨g1, g2, g3, g4⟩
      have HR2 : Aside (Res U t S S2 bad b2 0) := HR.out.trans hres
      have HD2 : Aside (b2 = 0 → Den S2.L t (k + 1) (emptyT (k + 1)) r) := hden
      have HI2 := Lib.hid hr
      clear g1 g2 g3 g4 hres hden hm hr
      go_wp2_with fail
      refine ⟨⟨k + 1, r, S2, b2, F2, rfl, by go_num, hkl, HI2.out, HS2, HR2, HD2⟩, by simp [intOf]; omega⟩
    · have t1 : decide ((k : Int) < (level : Int)) = false := decide_eq_false (by omega)
      have t2 : decide (k < level) = false := decide_eq_false hkl
      have hkE : k = level := by omega
      have HE := Lib.hid hkE
      clear hkE
      go_wp2_with fail
      go_ret
      exact ⟨S1, b1, _, F1, rfl, ⟨id, rfl, HI.out, HR.out, by rw [← HE.out]; exact HD.out⟩, HS.out.1, HS.out.2.1, HS.out.2.2.1, HS.out.2.2.2⟩
end Go.Proofs.Ytabhpbkkjijfjaa
namespace Go.Proofs.Ytabhpbkkjijfjaa
set_option maxRecDepth 100000
open Go.RowKit

/-- What a function of quad's comes to that makes a square: its number, or 0 and an error. -/
def Gets (U : Th → Prop) (w : World) (F : Nat → Prop) (b t : Nat) (S : ArS) (k n : Nat) (T : Tree) (e : Ending) (w' : World) : Prop :=
  ∃ (r er : Int) (S' : ArS) (F' : Nat → Prop), e = .returned (.tuple #[.int .i64 r, .int .i64 er]) ∧ I64 r ∧ Res U t S S' 0 er k ∧ (er = 0 → Den S'.L t n T r) ∧ (er ≠ 0 → r = 0) ∧ IsAr b S' w' F' ∧ (∀ i, F' i → F i ∨ w.heap.size ≤ i) ∧ Keeps F w w'
/-- The hand that such a function makes. -/
theorem hand_new {b t : Nat} {F : Nat → Prop} {S : ArS} {w : World} (h : IsAr b S w F) : HandAt w.heap.size b t 0 51 none (w.alloc (.cells #[.pointer (some ⟨b, 0, none⟩), .int .i64 t, .int .i64 0] 51 (0, 0))) ∧ ¬ F w.heap.size ∧ IsAr b S (w.alloc (.cells #[.pointer (some ⟨b, 0, none⟩), .int .i64 t, .int .i64 0] 51 (0, 0))) F :=
  ⟨⟨_, blk_last w _ rfl, rfl, rfl, rfl, rfl⟩, fun e => by have := h.lt _ e; omega, h.below ((Below.refl _ _).alloc (Nat.le_refl _) _)⟩
/-- The hand forgotten. -/
theorem HState.close {w X w1 : World} {F F1 : Nat → Prop} {b t : Nat} {ty : TypeId} {rest : Option Value} {S1 : ArS} {b1 : Int} (h : HState X F w.heap.size b t ty rest S1 b1 F1 w1) (hX : Below w.heap.size w X) : IsAr b S1 w1 F1 ∧ (∀ i, F1 i → F i ∨ w.heap.size ≤ i) ∧ Keeps F w w1 :=
  ⟨h.1, fun i hi => (h.2.2.1 i hi).imp id (fun h1 => Nat.le_trans hX.size h1), (Keeps.of_below hX).trans h.2.2.2 fun i hi hh => by
    rcases hh with h1 | h1
    · exact h1
    · omega⟩
end Go.Proofs.Ytabhpbkkjijfjaa
namespace Go.Proofs.Ytabhpbkkjijfjaa
set_option maxRecDepth 100000
open Go.RowKit

abbrev CellL := List (Int × Int)
def quadOf (mx my : Int) (c : Int × Int) : Nat := (if mx ≤ c.1 then 1 else 0) + (if my ≤ c.2 then 2 else 0)
theorem quadOf_lt (mx my : Int) (c : Int × Int) : quadOf mx my c < 4 := by unfold quadOf; split <;> split <;> omega
def partOf (mx my : Int) (k : Nat) (l : CellL) : CellL := l.filter fun c => decide (quadOf mx my c = k)
def partsOf (mx my : Int) (l : CellL) : List CellL := [partOf mx my 0 l, partOf mx my 1 l, partOf mx my 2 l, partOf mx my 3 l]
theorem partsOf_at (mx my : Int) (l : CellL) {k : Nat} (hk : k < 4) : (partsOf mx my l)[k]? = some (partOf mx my k l) := by
  rcases (show k = 0 ∨ k = 1 ∨ k = 2 ∨ k = 3 by omega) with rfl | rfl | rfl | rfl <;> rfl
theorem partOf_snoc (mx my : Int) (k : Nat) (l : CellL) (c : Int × Int) : partOf mx my k (l ++ [c]) = if quadOf mx my c = k then partOf mx my k l ++ [c] else partOf mx my k l := by
  unfold partOf
  rw [List.filter_append]
  by_cases h : quadOf mx my c = k
  · rw [if_pos h]; simp [h]
  · rw [if_neg h]; simp [h]
theorem partsOf_snoc (mx my : Int) (l : CellL) (c : Int × Int) : partsOf mx my (l ++ [c]) = (partsOf mx my l).set (quadOf mx my c) (partOf mx my (quadOf mx my c) l ++ [c]) := by
  have h4 := quadOf_lt mx my c
  apply List.ext_getElem?
  intro j
  rw [List.getElem?_set]
  by_cases hj : j < 4
  · rw [partsOf_at mx my _ hj, partsOf_at mx my _ hj, partOf_snoc, show (partsOf mx my l).length = 4 from rfl]
    by_cases e : quadOf mx my c = j
    · rw [if_pos e, if_pos e, if_pos h4, e]
    · rw [if_neg e, if_neg e]
  · have h1 : ∀ m, (partsOf mx my m)[j]? = none := fun m => List.getElem?_eq_none (by show 4 ≤ j; omega)
    rw [h1, h1, if_neg (by omega)]
theorem part_le (mx my : Int) (k : Nat) (l : CellL) : (partOf mx my k l).length ≤ l.length := List.length_filter_le _ _
theorem parts_sum (mx my : Int) : ∀ l : CellL, (partOf mx my 0 l).length + (partOf mx my 1 l).length + (partOf mx my 2 l).length + (partOf mx my 3 l).length = l.length
  | [] => rfl
  | c :: l => by
    have ih := parts_sum mx my l
    have h4 := quadOf_lt mx my c
    unfold partOf at ih ⊢
    simp only [List.filter_cons]
    rcases (show quadOf mx my c = 0 ∨ quadOf mx my c = 1 ∨ quadOf mx my c = 2 ∨ quadOf mx my c = 3 by omega) with e | e | e | e <;> simp [e] <;> omega
/-- The tree of cells, of a level, whose north-west corner is at x, y. -/
def buildT : Nat → Int → Int → CellL → Tree
  | 0, _, _, l => .leaf (!l.isEmpty)
  | n + 1, x, y, l => if l.isEmpty = true then emptyT (n + 1) else
    .node (buildT n x y (partOf (x + 2 ^ n) (y + 2 ^ n) 0 l)) (buildT n (x + 2 ^ n) y (partOf (x + 2 ^ n) (y + 2 ^ n) 1 l))
      (buildT n x (y + 2 ^ n) (partOf (x + 2 ^ n) (y + 2 ^ n) 2 l)) (buildT n (x + 2 ^ n) (y + 2 ^ n) (partOf (x + 2 ^ n) (y + 2 ^ n) 3 l))
/-- How many joins that takes, but those of empty squares. -/
def costB : Nat → Int → Int → CellL → Nat
  | 0, _, _, _ => 0
  | n + 1, x, y, l => if l.isEmpty = true then 0 else
    costB n x y (partOf (x + 2 ^ n) (y + 2 ^ n) 0 l) + costB n (x + 2 ^ n) y (partOf (x + 2 ^ n) (y + 2 ^ n) 1 l) + costB n x (y + 2 ^ n) (partOf (x + 2 ^ n) (y + 2 ^ n) 2 l) + costB n (x + 2 ^ n) (y + 2 ^ n) (partOf (x + 2 ^ n) (y + 2 ^ n) 3 l) + 1
theorem costB_some {n : Nat} {x y : Int} {l : CellL} {m : Nat} (h : l.isEmpty = false) (hm : (2 : Int) ^ n = m) : costB (n + 1) x y l = costB n x y (partOf (x + m) (y + m) 0 l) + costB n (x + m) y (partOf (x + m) (y + m) 1 l) + costB n x (y + m) (partOf (x + m) (y + m) 2 l) + costB n (x + m) (y + m) (partOf (x + m) (y + m) 3 l) + 1 := by
  rw [← hm, costB, if_neg (by rw [h]; decide)]
theorem buildT_some {n : Nat} {x y : Int} {l : CellL} {m : Nat} (h : l.isEmpty = false) (hm : (2 : Int) ^ n = m) : buildT (n + 1) x y l = .node (buildT n x y (partOf (x + m) (y + m) 0 l)) (buildT n (x + m) y (partOf (x + m) (y + m) 1 l)) (buildT n x (y + m) (partOf (x + m) (y + m) 2 l)) (buildT n (x + m) (y + m) (partOf (x + m) (y + m) 3 l)) := by
  rw [← hm, buildT, if_neg (by rw [h]; decide)]
theorem costB_le : ∀ (n : Nat) (x y : Int) (l : CellL), costB n x y l ≤ n * l.length
  | 0, _, _, _ => Nat.zero_le _
  | n + 1, x, y, l => by
    unfold costB
    split
    · exact Nat.zero_le _
    · next h =>
      have h1 : 1 ≤ l.length := by
        cases l with
        | nil => exact absurd rfl h
        | cons c l => simp
      have a0 := costB_le n x y (partOf (x + 2 ^ n) (y + 2 ^ n) 0 l)
      have a1 := costB_le n (x + 2 ^ n) y (partOf (x + 2 ^ n) (y + 2 ^ n) 1 l)
      have a2 := costB_le n x (y + 2 ^ n) (partOf (x + 2 ^ n) (y + 2 ^ n) 2 l)
      have a3 := costB_le n (x + 2 ^ n) (y + 2 ^ n) (partOf (x + 2 ^ n) (y + 2 ^ n) 3 l)
      have hs := parts_sum (x + 2 ^ n) (y + 2 ^ n) l
      have he : n * l.length = n * (partOf (x + 2 ^ n) (y + 2 ^ n) 0 l).length + n * (partOf (x + 2 ^ n) (y + 2 ^ n) 1 l).length + n * (partOf (x + 2 ^ n) (y + 2 ^ n) 2 l).length + n * (partOf (x + 2 ^ n) (y + 2 ^ n) 3 l).length := by
        rw [← hs, Nat.mul_add, Nat.mul_add, Nat.mul_add]
      rw [Nat.succ_mul]
      omega
/-- The four lists in memory. -/
structure Parts (P : Nat) (w0 : World) (ps : List CellL) (vs : List Value) (w : World) : Prop where
  below : Below w0.heap.size w0 w
  base : w0.heap.size ≤ P
  own : w.heap[P]? = some (.cells vs.toArray 86 (0, 0))
  len : vs.length = 4
  len' : ps.length = 4
  rows : ∀ (k : Nat) (v : Value) (p : CellL), vs[k]? = some v → ps[k]? = some p → Row w 39 2 v p.length (p.flatMap encCell)
  fresh : ∀ (k : Nat) (v : Value) (q : Nat), vs[k]? = some v → v.ownBlock = some q → P < q
  apart : ∀ (k j : Nat) (v u : Value) (q : Nat), k ≠ j → vs[k]? = some v → vs[j]? = some u → v.ownBlock = some q → u.ownBlock ≠ some q
section
variable {P : Nat} {w0 w w' : World} {ps : List CellL} {vs : List Value}
theorem Parts.more (h : Parts P w0 ps vs w) (hb : Below w.heap.size w w') : Parts P w0 ps vs w' :=
  { h with
    below := h.below.trans (hb.mono h.below.size)
    own := (hb.block P (lt_of_block h.own)).trans h.own
    rows := fun k v p hv hp => (h.rows k v p hv hp).keep fun q hq => hb.block q ((h.rows k v p hv hp).lt q hq) }
theorem Parts.start {w0 w : World} (hb : Below w0.heap.size w0 w) (mx my : Int) : Parts w.heap.size w0 (partsOf mx my []) [.slice none 0 0, .slice none 0 0, .slice none 0 0, .slice none 0 0] (w.alloc (.cells #[.slice none 0 0, .slice none 0 0, .slice none 0 0, .slice none 0 0] 86 (0, 0))) := by
  have hnil : ∀ (k : Nat) (v : Value), [Value.slice none 0 0, .slice none 0 0, .slice none 0 0, .slice none 0 0][k]? = some v → v = .slice none 0 0 := fun k v hv => by
    match k, hv with
    | 0, hv => exact (Option.some.inj hv).symm
    | 1, hv => exact (Option.some.inj hv).symm
    | 2, hv => exact (Option.some.inj hv).symm
    | 3, hv => exact (Option.some.inj hv).symm
    | k + 4, hv => simp at hv
  refine ⟨hb.alloc hb.size _, hb.size, blk_last w _ rfl, rfl, rfl, fun k v p hv hp => ?_, fun k v q hv hq => ?_, fun k j v u q _ hv _ hq => ?_⟩
  · rw [hnil k v hv]
    have hp' : p = [] := by
      match k, hp with
      | 0, hp => exact (Option.some.inj hp).symm
      | 1, hp => exact (Option.some.inj hp).symm
      | 2, hp => exact (Option.some.inj hp).symm
      | 3, hp => exact (Option.some.inj hp).symm
      | k + 4, hp => simp [partsOf] at hp
    subst hp'
    exact Row.nil _ _ _
  · rw [hnil k v hv] at hq; cases hq
  · rw [hnil k v hv] at hq; cases hq
theorem Parts.app {X w1 : World} {k n' off cap g : Nat} {v : Value} {p : CellL} {c : Int × Int} (h : Parts P w0 ps vs X) (hv : vs[k]? = some v) (hp : ps[k]? = some p)
    (hrow : Row w1 39 2 (.slice (some ⟨g, off, none⟩) n' cap) (p.length + 1) (p.flatMap encCell ++ encCell c)) (hg : X.grownBy w1 v.ownBlock) (hat : v.ownBlock = some g ∨ g = X.heap.size) :
    Parts P w0 (ps.set k (p ++ [c])) (vs.set k (.slice (some ⟨g, off, none⟩) n' cap)) (w1.setCell ⟨P, k, none⟩ (.slice (some ⟨g, off, none⟩) n' cap)) := by
  have hPl := lt_of_block h.own
  have hvr := h.rows k v p hv hp
  have hPv : some P ≠ v.ownBlock := fun e => by have := h.fresh k v P hv e.symm; omega
  have hk : k < vs.length := (List.getElem?_eq_some_iff.1 hv).1
  have hPg : P < g := by
    rcases hat with e | e
    · exact h.fresh k v g hv e
    · omega
  have hvt : ∀ (s : Nat) (u : Value), (vs.set k (.slice (some ⟨g, off, none⟩) n' cap))[s]? = some u → (s = k ∧ u = .slice (some ⟨g, off, none⟩) n' cap) ∨ (s ≠ k ∧ vs[s]? = some u) := fun s u hu => by
    rw [List.getElem?_set] at hu
    by_cases e : k = s
    · rw [if_pos e, if_pos hk] at hu; cases hu; exact .inl ⟨e.symm, rfl⟩
    · rw [if_neg e] at hu; exact .inr ⟨fun h => e h.symm, hu⟩
  have blk : ∀ q, q < X.heap.size → q ≠ P → v.ownBlock ≠ some q → (w1.setCell ⟨P, k, none⟩ (.slice (some ⟨g, off, none⟩) n' cap)).heap[q]? = X.heap[q]? := fun q h1 h2 h3 => by
    rw [Below.heap_setCell _ _ _ _ h2]
    exact hg.block q h1 (fun e => h3 e.symm)
  have hgs : X.heap.size ≤ w1.heap.size := hg.size
  refine ⟨?_, h.base, ?_, by rw [List.length_set]; exact h.len, by rw [List.length_set]; exact h.len', fun s u p' hu hp' => ?_, fun s u q hu hq => ?_, fun s r u z q hsr hu hz hq => ?_⟩
  · have hb1 : Below w0.heap.size X w1 := ⟨hg.os, hg.tape, hg.output, hg.size, fun q hq => hg.block q (Nat.lt_of_lt_of_le hq h.below.size) (fun e => by have := h.fresh k v q hv e.symm; have := h.base; omega)⟩
    exact (h.below.trans hb1).setCell (p := ⟨P, k, none⟩) h.base _
  · have h1 : w1.heap[P]? = some (.cells vs.toArray 86 (0, 0)) := (hg.block P hPl hPv).trans h.own
    have := Joins.block_setCell (i := k) h1 (.slice (some ⟨g, off, none⟩) n' cap)
    rw [this]
    simp
  · rcases hvt s u hu with ⟨rfl, rfl⟩ | ⟨hne, hu'⟩
    · rw [List.getElem?_set, if_pos rfl, if_pos (by rw [h.len', ← h.len]; exact hk)] at hp'
      cases hp'
      rw [List.length_append, List.flatMap_append]
      refine Row.keep (by simpa using hrow) fun q hq => ?_
      have hq' : g = q := by simpa [Value.ownBlock] using hq
      exact Below.heap_setCell _ _ _ _ (by show q ≠ P; omega)
    · rw [List.getElem?_set, if_neg (Ne.symm hne)] at hp'
      have hr := h.rows s u p' hu' hp'
      exact hr.keep fun q hq => blk q (hr.lt q hq) (fun e => by have := h.fresh s u q hu' hq; omega) (fun e => h.apart k s v u q (Ne.symm hne) hv hu' e hq)
  · rcases hvt s u hu with ⟨rfl, rfl⟩ | ⟨hne, hu'⟩
    · have hq' : g = q := by simpa [Value.ownBlock] using hq
      omega
    · exact h.fresh s u q hu' hq
  · have other : ∀ (j : Nat) (y : Value) (q : Nat), j ≠ k → vs[j]? = some y → y.ownBlock = some q → q ≠ g := fun j y q hj hy hq e => by
      rcases hat with e1 | e1
      · exact h.apart k j v y g (Ne.symm hj) hv hy e1 (by rw [← e]; exact hq)
      · have hl : q < X.heap.size := (h.rows j y (ps[j]'(by have := (List.getElem?_eq_some_iff.1 hy).1; rw [h.len'] ; rw [h.len] at this; exact this)) hy (List.getElem?_eq_getElem _)).lt q hq
        omega
    rcases hvt s u hu with ⟨rfl, rfl⟩ | ⟨hne, hu'⟩
    · have hq' : g = q := by simpa [Value.ownBlock] using hq
      rcases hvt r z hz with ⟨rfl, rfl⟩ | ⟨hne2, hz'⟩
      · exact absurd rfl hsr
      · intro e
        exact other r z q hne2 hz' e hq'.symm
    · rcases hvt r z hz with ⟨rfl, rfl⟩ | ⟨hne2, hz'⟩
      · intro e
        have hq' : g = q := by simpa [Value.ownBlock] using e
        exact other s u q hne hu' hq hq'.symm
      · exact h.apart s r u z q hsr hu' hz' hq
end
end Go.Proofs.Ytabhpbkkjijfjaa
