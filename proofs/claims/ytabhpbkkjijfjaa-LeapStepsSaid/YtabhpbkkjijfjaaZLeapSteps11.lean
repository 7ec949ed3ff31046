/-
  What a method comes to that changes its receiver's memory; arena.Arena in memory, and what reads it: owns, Level, Kids, Count, Live, Recall; What reads an arena: owns, Level, Kids, Count, Live, Recall.
-/
import Derived.Test.YtabhpbkkjijfjaaZLeapStepsFoot
import Derived.Test.YtabhpbkkjijfjaaZLeapSteps10
namespace Go.Proofs.Ytabhpbkkjijfjaa
set_option maxRecDepth 100000
open Go.RowKit

/-- What a method that changes its receiver's memory comes to: it answers v, what it leaves is At, in the same blocks or new ones; nothing else has turned. -/
def Mut (w : World) (F : Nat → Prop) (At : World → (Nat → Prop) → Prop) (v : Value) (e : Ending) (w' : World) : Prop :=
  e = .returned v ∧ ∃ F', At w' F' ∧ (∀ i, F' i → F i ∨ w.heap.size ≤ i) ∧ Keeps F w w'
theorem Mut.same {w : World} {F : Nat → Prop} {At : World → (Nat → Prop) → Prop} {v : Value} (h : At w F) : Mut w F At v (.returned v) w := ⟨rfl, F, h, fun _ hi => .inl hi, Keeps.refl _ _⟩
end Go.Proofs.Ytabhpbkkjijfjaa
namespace Go.Proofs.Ytabhpbkkjijfjaa
set_option maxRecDepth 100000
open Go.RowKit

def zeroE : Ent := ⟨0, 0, 0, 0, 0, 0, 0, 0⟩
def encEnt (x : Ent) : List Value := [.int .i64 x.k, .int .i64 x.a, .int .i64 x.b, .int .i64 x.c, .int .i64 x.d, .int .i64 x.lv, .int .i64 x.va, .int .u64 x.ma]
def encO (o : Option Ent) : List Value := encEnt (o.getD zeroE)
theorem encO_len (o : Option Ent) : (encO o).length = 8 := rfl
def encL (L : List (Option Ent)) : List Value := L.flatMap encO
theorem encL_len (L : List (Option Ent)) : (encL L).length = L.length * 8 := by
  unfold encL
  induction L with
  | nil => rfl
  | cons o L ih => rw [List.flatMap_cons, List.length_append, encO_len, ih, List.length_cons]; omega
theorem encL_at {L : List (Option Ent)} : ∀ {i : Nat} {o : Option Ent}, L[i]? = some o → ∀ j, j < 8 → (encL L)[i * 8 + j]? = (encO o)[j]? := by
  induction L with
  | nil => intro i o h; simp at h
  | cons z L ih =>
    intro i o h j hj
    unfold encL at ih ⊢
    rw [List.flatMap_cons, List.getElem?_append, encO_len]
    cases i with
    | zero =>
      obtain rfl : z = o := by simpa using h
      rw [if_pos (by omega)]; congr 1; omega
    | succ i =>
      rw [if_neg (by omega), ← ih (by simpa using h) j hj]; congr 1; omega
def GoodE (x : Ent) : Prop := GoodA x.key ∧ I64 x.lv ∧ I64 x.va
def idV (i : Nat) : Value := .int .i64 i
/-- An arena in memory; lv: how much lives as it says; X: what is neither free nor anything yet. -/
structure ArAt (b : Nat) (S : ArS) (arr : Array Value) (v1 v3 : Value) (bm n : Nat) (fr : List Nat) (g : AKey → Option Nat) (vs : List Value) (w : World) (F : Nat → Prop) (lv : Nat) (X : Nat → Prop) : Prop where
  ok : ArOk S
  good : ∀ i x, atL S.L i = some x → GoodE x
  own : w.heap[b]? = some (.cells arr 64 (0, 0))
  size : arr.size = 197
  c0 : arr[0]? = some (.int .i64 S.room)
  c1 : arr[1]? = some v1
  c2 : arr[2]? = some (.map (some bm))
  c3 : arr[3]? = some v3
  c4 : ∀ t, t < 64 → arr[4 + t]? = some (.int .i64 (countL S.L t))
  c5 : ∀ t, t < 64 → arr[68 + t]? = some (.int .i64 (S.quo t))
  c6 : ∀ t, t < 64 → arr[132 + t]? = vs[t]?
  c7 : arr[196]? = some (.int .i64 lv)
  list : Row w 95 8 v1 S.L.length (encL S.L)
  map : MapOf keyA GoodA w bm n (fun k => (g k).map idV)
  keys : ∀ k i, g k = some i ↔ ∃ x, atL S.L i = some x ∧ x.key = k
  free : Row w 3 1 v3 fr.length (fr.map idV)
  heap : HeapN fr.length fr
  nodup : fr.Nodup
  frees : ∀ i, i ∈ fr ↔ 2 ≤ i ∧ i < S.L.length ∧ atL S.L i = none ∧ ¬ X i
  len : vs.length = 64
  rows : ∀ (t : Nat) (v : Value), vs[t]? = some v → Row w 3 1 v (S.add t).length ((S.add t).map idV)
  fb : F b
  fm : F bm
  f1 : ∀ (q : Nat), v1.ownBlock = some q → F q
  f3 : ∀ (q : Nat), v3.ownBlock = some q → F q
  fv : ∀ (t : Nat) (v : Value) (q : Nat), vs[t]? = some v → v.ownBlock = some q → F q
  lt : ∀ i, F i → i < w.heap.size
  apart3 : ∀ (t : Nat) (v : Value) (q : Nat), vs[t]? = some v → v.ownBlock = some q → v3.ownBlock ≠ some q
  apart : ∀ (t s : Nat) (v u : Value) (q : Nat), t ≠ s → vs[t]? = some v → vs[s]? = some u → v.ownBlock = some q → u.ownBlock ≠ some q
def IsAr (b : Nat) (S : ArS) (w : World) (F : Nat → Prop) : Prop := ∃ arr v1 v3 bm n fr g vs, ArAt b S arr v1 v3 bm n fr g vs w F (liveL S.L) (fun _ => False)
section
variable {b : Nat} {S : ArS} {arr : Array Value} {v1 v3 : Value} {bm n : Nat} {fr : List Nat} {g : AKey → Option Nat} {vs : List Value} {w w' : World} {F G : Nat → Prop} {lv : Nat} {X : Nat → Prop}
theorem ArAt.keep (h : ArAt b S arr v1 v3 bm n fr g vs w F lv X) (k : Keeps G w w') (hd : ∀ i, F i → ¬ G i) : ArAt b S arr v1 v3 bm n fr g vs w' F lv X := by
  have blk : ∀ i, F i → w'.heap[i]? = w.heap[i]? := fun i hi => k.block i (h.lt i hi) (hd i hi)
  exact { h with
    own := (blk b h.fb).trans h.own
    list := h.list.keep fun q hq => blk q (h.f1 q hq)
    map := h.map.keep (blk bm h.fm)
    free := h.free.keep fun q hq => blk q (h.f3 q hq)
    rows := fun t v hv => (h.rows t v hv).keep fun q hq => blk q (h.fv t v q hv hq)
    lt := fun i hi => Nat.lt_of_lt_of_le (h.lt i hi) k.size }
theorem IsAr.keep (h : IsAr b S w F) (k : Keeps G w w') (hd : ∀ i, F i → ¬ G i) : IsAr b S w' F := by
  obtain ⟨_, _, _, _, _, _, _, _, h⟩ := h
  exact ⟨_, _, _, _, _, _, _, _, h.keep k hd⟩
theorem IsAr.lt (h : IsAr b S w F) : ∀ i, F i → i < w.heap.size := by obtain ⟨_, _, _, _, _, _, _, _, h⟩ := h; exact h.lt
theorem IsAr.below (h : IsAr b S w F) (hb : Below w.heap.size w w') : IsAr b S w' F := h.keep (Keeps.of_below (F := fun _ => False) hb) (fun _ _ h => h)
theorem IsAr.ok (h : IsAr b S w F) : ArOk S := by obtain ⟨_, _, _, _, _, _, _, _, h⟩ := h; exact h.ok
theorem ArAt.cell (h : ArAt b S arr v1 v3 bm n fr g vs w F lv X) (j : Nat) : w.cell? ⟨b, j, none⟩ = arr[j]? := Joins.cell_of_block h.own j
/-- Where the list lies, and its cells. -/
theorem ArAt.ents (h : ArAt b S arr v1 v3 bm n fr g vs w F lv X) : ∃ q o c, v1 = .slice (some ⟨q, o, none⟩) S.L.length c ∧ F q ∧ q ≠ b ∧ ∀ i u, S.L[i]? = some u → ∀ j, j < 8 → w.cell? ⟨q, o + i * 8 + j, none⟩ = (encO u)[j]? := by
  obtain ⟨a, c, hv, hc, hm, ha⟩ := h.list.form
  have h2 := h.ok.two
  have hl := h.list
  have hF := h.f1
  have hne := h.list.ne_type h.own (by decide)
  rw [hv] at hl hF hne
  obtain ⟨q, o, rfl, hcell, _, _⟩ := hl.cells (by omega)
  refine ⟨q, o, c, hv, hF q rfl, fun e => hne (by rw [e]; rfl), fun i u hi j hj => ?_⟩
  have hlt := (List.getElem?_eq_some_iff.1 hi).1
  rw [Nat.add_assoc, hcell (i * 8 + j) (by omega), encL_at hi j hj]
end
set_option maxHeartbeats 1000000 in
theorem tenant_any (t : Int) (w : World) : Calls Try.prog 46 #[.int .i64 t] w fun e w' => e = .returned (.bool (decide (0 ≤ t) && decide (t < 64))) ∧ w' = w := by
  rcases (show t < 0 ∨ 0 ≤ t by omega) with h | h
  · have h1 : decide (t ≥ 0) = false := decide_eq_false (by omega)
    have h2 : decide (0 ≤ t) = false := decide_eq_false (by omega)
    rw [h2]
    go_enter Try.func46, Try.ntmps46
    go_wp2_with fail
    go_ret
    exact ⟨rfl, rfl⟩
  · have h1 : decide (t ≥ 0) = true := decide_eq_true (by omega)
    have h2 : decide (0 ≤ t) = true := decide_eq_true (by omega)
    rw [h2, Bool.true_and]
    go_enter Try.func46, Try.ntmps46
    go_wp2_with fail
    go_ret
    exact ⟨rfl, rfl⟩
end Go.Proofs.Ytabhpbkkjijfjaa
namespace Go.Proofs.Ytabhpbkkjijfjaa
set_option maxRecDepth 100000
open Go.RowKit

theorem and_one_u64 (x : Int) : bits .and .u64 x 1 = x % 2 := by
  have h1 : BitVec.ofInt 64 x &&& BitVec.ofInt 64 1 = BitVec.ofNat 64 ((BitVec.ofInt 64 x).toNat % 2) := by
    apply BitVec.eq_of_toNat_eq
    rw [BitVec.toNat_and]
    have e : (BitVec.ofInt 64 1).toNat = 1 := by decide
    rw [e, Nat.and_one_is_mod, BitVec.toNat_ofNat]
    omega
  show IntKind.u64.wrap ((BitVec.ofInt 64 x &&& BitVec.ofInt 64 1).toNat : Int) = x % 2
  rw [h1, BitVec.toNat_ofNat, IntKind.wrap_u64]
  have e2 : ((BitVec.ofInt 64 x).toNat : Int) = x % 18446744073709551616 := by
    rw [BitVec.toNat_ofInt]; omega
  omega
theorem bit_u64 (m t : Nat) : (bits .and .u64 ((m : Int) / 2 ^ t) 1 == 1) = m.testBit t := by
  rw [and_one_u64, Nat.testBit_eq_decide_div_mod_eq]
  have e : (m : Int) / 2 ^ t = ((m / 2 ^ t : Nat) : Int) := by
    rw [Int.natCast_ediv, Int.natCast_pow]; rfl
  rw [e]
  by_cases h : m / 2 ^ t % 2 = 1
  · rw [decide_eq_true h]; simp; omega
  · rw [decide_eq_false h]; simp; omega
theorem ownsA_list {L : List (Option Ent)} {t id : Nat} {kind : Int} {u : Option Ent} (hu : L[id]? = some u) (h2 : 2 ≤ id) : ownsA L t id kind = (decide ((u.getD zeroE).k = kind) && (u.getD zeroE).ma.testBit t) := by
  have e1 : decide ((id : Int) = 0) = false := decide_eq_false (by omega)
  have e2 : decide ((id : Int) = 1) = false := decide_eq_false (by omega)
  have e3 : decide (2 ≤ (id : Int)) = true := decide_eq_true (by omega)
  have e4 : atL L id = u := by rw [atL, hu]; rfl
  rw [ownsA, e1, e2, e3, Int.toNat_natCast, e4]
  cases u with
  | none => simp [zeroE]
  | some x => simp
theorem ownsA_out {L : List (Option Ent)} {t : Nat} {id kind : Int} (h : id < 2 ∨ (L.length : Int) ≤ id) (hk : kind ≠ 0 ∨ (id ≠ 0 ∧ id ≠ 1)) : ownsA L t id kind = false := by
  have e1 : (decide (kind = 0) && (decide (id = 0) || decide (id = 1))) = false := by
    rcases hk with h | ⟨h1, h2⟩
    · rw [decide_eq_false h]; rfl
    · rw [decide_eq_false h1, decide_eq_false h2]; simp
  rw [ownsA, e1, Bool.false_or]
  rcases h with h | h
  · rw [decide_eq_false (by omega)]; rfl
  · rw [atL_out (by omega)]; simp
theorem ownsA_base {L : List (Option Ent)} {t : Nat} {id : Int} (h : id = 0 ∨ id = 1) : ownsA L t id 0 = true := by
  unfold ownsA
  rcases h with h | h <;> subst h <;> rfl
set_option maxHeartbeats 1000000 in
theorem owns_any (b : Nat) (S : ArS) (F : Nat → Prop) (t : Nat) (id kind : Int) (w : World) (h : IsAr b S w F) (ht : t < 64) :
    Calls Try.prog 47 #[.pointer (some ⟨b, 0, none⟩), .int .i64 t, .int .i64 id, .int .i64 kind] w fun e w' => e = .returned (.bool (ownsA S.L t id kind)) ∧ w' = w := by
  obtain ⟨arr, v1, v3, bm, n, fr, g, vs, h⟩ := h
  obtain ⟨q, o, c, rfl, hFq, hqb, hent⟩ := h.ents
  have c1 : w.cell? ⟨b, 1, none⟩ = some (.slice (some ⟨q, o, none⟩) S.L.length c) := (h.cell 1).trans h.c1
  by_cases hb : kind = 0 ∧ (id = 0 ∨ id = 1)
  · obtain ⟨rfl, hid⟩ := hb
    rw [ownsA_base hid]
    clear h hent
    rcases hid with rfl | rfl
    all_goals
      go_enter Try.func47, Try.ntmps47
      go_wp2_with fail
      go_ret
      exact ⟨rfl, rfl⟩
  · by_cases h2 : id < 2
    · rw [ownsA_out (.inl h2) (by omega)]
      have g3 : decide (id ≥ 2) = false := decide_eq_false (by omega)
      have g5 : decide (2 ≤ id) = false := decide_eq_false (by omega)
      clear h hent
      by_cases hk : kind = 0
      · subst hk
        have g1 : (id == 0) = false := by simp; omega
        have g2 : (id == 1) = false := by simp; omega
        go_enter Try.func47, Try.ntmps47
        go_wp2_with fail
        go_ret
        exact ⟨rfl, rfl⟩
      · have g1 : (kind == 0) = false := by simpa using hk
        go_enter Try.func47, Try.ntmps47
        go_wp2_with fail
        go_ret
        exact ⟨rfl, rfl⟩
    · obtain ⟨i, rfl⟩ := Int.eq_ofNat_of_zero_le (show 0 ≤ id by omega)
      have g1 : ((i : Int) == 0) = false := by simp; omega
      have g2 : ((i : Int) == 1) = false := by simp; omega
      have g3 : decide ((i : Int) ≥ 2) = true := decide_eq_true (by omega)
      have g5 : decide (2 ≤ (i : Int)) = true := decide_eq_true (by omega)
      have g7 : decide (2 ≤ i) = true := decide_eq_true (by omega)
      by_cases hl : i < S.L.length
      · obtain ⟨u, hu⟩ : ∃ u, S.L[i]? = some u := ⟨_, List.getElem?_eq_getElem hl⟩
        rw [ownsA_list hu (by omega)]
        have e0 := hent i u hu 0 (by omega)
        have e7 := hent i u hu 7 (by omega)
        obtain ⟨x, hx⟩ : ∃ x, x = u.getD zeroE := ⟨_, rfl⟩
        rw [← hx]
        simp only [encO, ← hx, encEnt, List.getElem?_cons_zero, List.getElem?_cons_succ, Nat.add_zero] at e0 e7
        obtain ⟨N, hN⟩ : ∃ N, N = S.L.length := ⟨_, rfl⟩
        rw [← hN] at c1 hl
        have hbit := bit_u64 x.ma t
        have g4 : decide ((i : Int) < (N : Int)) = true := decide_eq_true (by omega)
        have g6 : decide (i < N) = true := decide_eq_true (by omega)
        clear h hent hu hx hN
        by_cases hk0 : kind = 0
        · subst hk0
          by_cases hk : x.k = 0
          · have hkb : (x.k == 0) = true := by simpa using hk
            have hkd : decide (x.k = 0) = true := decide_eq_true hk
            rw [hkd, Bool.true_and]
            clear hk
            go_enter Try.func47, Try.ntmps47
            go_wp2_with fail
            go_ret
            exact ⟨rfl, rfl⟩
          · have hkb : (x.k == 0) = false := by simpa using hk
            have hkd : decide (x.k = 0) = false := decide_eq_false hk
            rw [hkd, Bool.false_and]
            clear hbit hk
            go_enter Try.func47, Try.ntmps47
            go_wp2_with fail
            go_ret
            exact ⟨rfl, rfl⟩
        · have hk1 : (kind == 0) = false := by simpa using hk0
          by_cases hk : x.k = kind
          · have hkb : (x.k == kind) = true := by simpa using hk
            have hkd : decide (x.k = kind) = true := decide_eq_true hk
            rw [hkd, Bool.true_and]
            clear hk hk0
            go_enter Try.func47, Try.ntmps47
            go_wp2_with fail
            go_ret
            exact ⟨rfl, rfl⟩
          · have hkb : (x.k == kind) = false := by simpa using hk
            have hkd : decide (x.k = kind) = false := decide_eq_false hk
            rw [hkd, Bool.false_and]
            clear hbit hk hk0
            go_enter Try.func47, Try.ntmps47
            go_wp2_with fail
            go_ret
            exact ⟨rfl, rfl⟩
      · rw [ownsA_out (.inr (by omega)) (by omega)]
        obtain ⟨N, hN⟩ : ∃ N, N = S.L.length := ⟨_, rfl⟩
        rw [← hN] at c1 hl
        have g4 : decide ((i : Int) < (N : Int)) = false := decide_eq_false (by omega)
        have g6 : decide (i < N) = false := decide_eq_false (by omega)
        clear h hent hN
        by_cases hk0 : kind = 0
        · subst hk0
          go_enter Try.func47, Try.ntmps47
          go_wp2_with fail
          go_ret
          exact ⟨rfl, rfl⟩
        · have hk1 : (kind == 0) = false := by simpa using hk0
          clear hk0
          go_enter Try.func47, Try.ntmps47
          go_wp2_with fail
          go_ret
          exact ⟨rfl, rfl⟩
end Go.Proofs.Ytabhpbkkjijfjaa
