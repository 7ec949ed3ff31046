/-
  An arena as a list of things by their numbers: plain lists.
-/
import Derived.Test.YtabhpbkkjijfjaaGreatDoorZHouseLogsFoot
namespace Go.Proofs.YtabhpbkkjijfjaaGreatDoor
set_option maxRecDepth 100000

/-- A square or a note: its kind, its four numbers, its level, its value, whose it is. -/
structure Ent where
  k : Int
  a : Int
  b : Int
  c : Int
  d : Int
  lv : Int
  va : Int
  ma : Nat
deriving DecidableEq
abbrev AKey := Int × Int × Int × Int × Int
def Ent.key (e : Ent) : AKey := (e.k, e.a, e.b, e.c, e.d)
def entOf (k : AKey) (lv va : Int) (ma : Nat) : Ent := ⟨k.1, k.2.1, k.2.2.1, k.2.2.2.1, k.2.2.2.2, lv, va, ma⟩
theorem entOf_key (k : AKey) (lv va : Int) (ma : Nat) : (entOf k lv va ma).key = k := rfl
/-- Things by their numbers; what each tenant may have; what it was given since its mark. -/
structure ArS where
  room : Nat
  L : List (Option Ent)
  quota : List Int
  added : List (List Nat)
def atL (L : List (Option Ent)) (i : Nat) : Option Ent := (L[i]?).join
theorem atL_some {L : List (Option Ent)} {i : Nat} {x : Ent} : atL L i = some x ↔ L[i]? = some (some x) := by
  unfold atL
  cases h : L[i]? with
  | none => simp
  | some o => cases o <;> simp
theorem atL_lt {L : List (Option Ent)} {i : Nat} {x : Ent} (h : atL L i = some x) : i < L.length := (List.getElem?_eq_some_iff.1 (atL_some.1 h)).1
theorem atL_out {L : List (Option Ent)} {i : Nat} (h : L.length ≤ i) : atL L i = none := by rw [atL, List.getElem?_eq_none h]; rfl
theorem atL_set {L : List (Option Ent)} {i j : Nat} {o : Option Ent} (hi : i < L.length) : atL (L.set i o) j = if i = j then o else atL L j := by
  unfold atL
  rw [List.getElem?_set]
  by_cases h : i = j
  · subst h
    rw [if_pos rfl, if_pos rfl, if_pos hi]; rfl
  · rw [if_neg h, if_neg h]
theorem atL_snoc {L : List (Option Ent)} {j : Nat} {o : Option Ent} : atL (L ++ [o]) j = if j = L.length then o else atL L j := by
  unfold atL
  rw [List.getElem?_append]
  by_cases h : j < L.length
  · rw [if_pos h, if_neg (by omega)]
  · rw [if_neg h]
    by_cases h2 : j = L.length
    · subst h2; simp
    · rw [if_neg h2, List.getElem?_eq_none (by simp; omega), List.getElem?_eq_none (by omega)]
/-- Is a thing a tenant's? -/
def mine (t : Nat) (o : Option Ent) : Bool := match o with
  | none => false
  | some x => x.ma.testBit t
def countL (L : List (Option Ent)) (t : Nat) : Nat := L.countP (mine t)
def liveL (L : List (Option Ent)) : Nat := L.countP Option.isSome
theorem countP_set {α : Type} (p : α → Bool) : ∀ (L : List α) (i : Nat) (x y : α), L[i]? = some x → (L.set i y).countP p + (if p x then 1 else 0) = L.countP p + (if p y then 1 else 0)
  | [], i, x, y, h => by simp at h
  | z :: L, 0, x, y, h => by
    obtain rfl : z = x := by simpa using h
    rw [List.set_cons_zero, List.countP_cons, List.countP_cons]; omega
  | z :: L, i + 1, x, y, h => by
    rw [List.set_cons_succ, List.countP_cons, List.countP_cons]
    have := countP_set p L i x y (by simpa using h)
    omega
theorem countL_le (L : List (Option Ent)) (t : Nat) : countL L t ≤ liveL L := by
  unfold countL liveL
  induction L with
  | nil => simp
  | cons o L ih =>
    rw [List.countP_cons, List.countP_cons]
    cases o with
    | none => simp [mine]; omega
    | some x =>
      cases hb : x.ma.testBit t <;> simp [mine, hb] <;> omega
/-- An own thing of a kind; the squares 0 and 1 are everybody's. -/
def ownsA (L : List (Option Ent)) (t : Nat) (id kind : Int) : Bool :=
  (decide (kind = 0) && (decide (id = 0) || decide (id = 1))) || (decide (2 ≤ id) && match atL L id.toNat with
    | none => false
    | some x => decide (x.k = kind) && x.ma.testBit t)
def lvA (L : List (Option Ent)) (id : Int) : Int := match atL L id.toNat with
  | none => 0
  | some x => x.lv
/-- What has a key. -/
def HasKey (L : List (Option Ent)) (k : AKey) (i : Nat) (x : Ent) : Prop := atL L i = some x ∧ x.key = k
/-- The form of an arena. -/
structure ArOk (S : ArS) : Prop where
  room : S.room ≤ 200000
  two : 2 ≤ S.L.length
  nil0 : atL S.L 0 = none
  nil1 : atL S.L 1 = none
  long : S.L.length ≤ S.room + 2
  live : liveL S.L ≤ S.room
  uniq : ∀ i j x y, atL S.L i = some x → atL S.L j = some y → x.key = y.key → i = j
  mask : ∀ i x, atL S.L i = some x → x.ma < 18446744073709551616
  quota : S.quota.length = 64
  quotaR : ∀ q ∈ S.quota, 0 ≤ q ∧ q ≤ 200000
  added : S.added.length = 64
  few : ∀ t l, S.added[t]? = some l → l.length ≤ countL S.L t
def ArS.quo (S : ArS) (t : Nat) : Int := S.quota.getD t 0
def ArS.add (S : ArS) (t : Nat) : List Nat := S.added.getD t []
/-- An entry becomes a tenant's own. -/
def takeA (S : ArS) (t id : Nat) (x : Ent) : ArS := { S with L := S.L.set id (some { x with ma := x.ma ||| 2 ^ t }), added := S.added.set t (S.add t ++ [id]) }
/-- The least number that is free. -/
def LeastA (L : List (Option Ent)) (id : Nat) : Prop := 2 ≤ id ∧ atL L id = none ∧ id ≤ L.length ∧ ∀ j, 2 ≤ j → j < id → atL L j ≠ none
/-- A new thing at a number that is free. -/
def putA (S : ArS) (i : Nat) (k : AKey) (lv va : Int) : ArS := { S with L := S.L.set i (some (entOf k lv va 0)) }
def roomA (S : ArS) (i : Nat) : ArS := { S with L := if i < S.L.length then S.L else S.L ++ [none] }
def newA (S : ArS) (t i : Nat) (k : AKey) (lv va : Int) : ArS := takeA (putA (roomA S i) i k lv va) t i (entOf k lv va 0)
def sweptL (L : List (Option Ent)) : List (Option Ent) := L.map fun o => match o with
  | none => none
  | some x => if x.ma = 0 then none else some x
def sweptA (S : ArS) : ArS := { S with L := sweptL S.L }
/-- What give comes to. -/
def Gave (S : ArS) (t : Nat) (k : AKey) (lv va : Int) (r e : Int) (S' : ArS) : Prop :=
  (∃ i x, HasKey S.L k i x ∧ x.ma.testBit t = true ∧ r = i ∧ e = 0 ∧ S' = S) ∨
  ((∀ i x, HasKey S.L k i x → x.ma.testBit t = false) ∧ S.quo t ≤ countL S.L t ∧ r = 0 ∧ e = 9 ∧ S' = S) ∨
  (∃ i x, HasKey S.L k i x ∧ x.ma.testBit t = false ∧ (countL S.L t : Int) < S.quo t ∧ r = i ∧ e = 0 ∧ S' = takeA S t i x) ∨
  ((∀ i x, ¬ HasKey S.L k i x) ∧ (countL S.L t : Int) < S.quo t ∧ ∃ S1, S1 = (if S.room ≤ liveL S.L then sweptA S else S) ∧
    ((S1.room ≤ liveL S1.L ∧ r = 0 ∧ e = 5 ∧ S' = S1) ∨ (liveL S1.L < S1.room ∧ ∃ i, LeastA S1.L i ∧ r = i ∧ e = 0 ∧ S' = newA S1 t i k lv va)))
/-- The number of what has a key. -/
def findK (L : List (Option Ent)) (k : AKey) : Option Nat := L.findIdx? fun o => match o with
  | none => false
  | some x => decide (x.key = k)
theorem findK_some {L : List (Option Ent)} {k : AKey} {i : Nat} (h : findK L k = some i) : ∃ x, HasKey L k i x := by
  unfold findK at h
  rw [List.findIdx?_eq_some_iff_getElem] at h
  obtain ⟨hl, hp, _⟩ := h
  cases ho : L[i] with
  | none => rw [ho] at hp; cases hp
  | some x =>
    rw [ho] at hp
    exact ⟨x, atL_some.2 (by rw [List.getElem?_eq_getElem hl, ho]), by simpa using hp⟩
theorem findK_none {L : List (Option Ent)} {k : AKey} (h : findK L k = none) : ∀ i x, ¬ HasKey L k i x := by
  intro i x ⟨h1, h2⟩
  unfold findK at h
  rw [List.findIdx?_eq_none_iff] at h
  have := h (some x) (List.mem_of_getElem? (atL_some.1 h1))
  simp [h2] at this
theorem findK_iff {S : ArS} (h : ArOk S) {k : AKey} {i : Nat} : findK S.L k = some i ↔ ∃ x, atL S.L i = some x ∧ x.key = k := by
  constructor
  · intro e
    obtain ⟨x, h1, h2⟩ := findK_some e
    exact ⟨x, h1, h2⟩
  · rintro ⟨x, h1, h2⟩
    cases e : findK S.L k with
    | none => exact absurd ⟨h1, h2⟩ (findK_none e i x)
    | some j =>
      obtain ⟨y, g1, g2⟩ := findK_some e
      rw [h.uniq i j x y h1 g1 (h2.trans g2.symm)]
end Go.Proofs.YtabhpbkkjijfjaaGreatDoor
