/-
  arena.Arena in memory, and what reads it: owns, Level, Kids, Count, Live, Recall.
-/
import Derived.Test.YtabhpbkkjijfjaaGreatDoorZHouseLogs15
import Derived.Test.YtabhpbkkjijfjaaGreatDoorZHouseLogs4
namespace Go.Proofs.YtabhpbkkjijfjaaGreatDoor
set_option maxRecDepth 100000
open Go.RowKit

def zeroE : Ent := ⟨0, 0, 0, 0, 0, 0, 0, 0⟩
def encEnt (x : Ent) : List Value := [.int .i64 x.k, .int .i64 x.a, .int .i64 x.b, .int .i64 x.c, .int .i64 x.d, .int .i64 x.lv, .int .i64 x.va, .int .u64 x.ma]
def encO (o : Option Ent) : List Value := encEnt (o.getD zeroE)
theorem encO_len (o : Option Ent) : (encO o).length = 8 := rfl
def encL (L : List (Option Ent)) : List Value := L.flatMap encO
theorem encL_len (L : List (Option Ent)) : (encL L).length = L.length * 8 := by
  unfold encL
  induction L with
  | nil => rfl
  | cons o L ih => rw [List.flatMap_cons, List.length_append, encO_len, ih, List.length_cons]; omega
theorem encL_at {L : List (Option Ent)} : ∀ {i : Nat} {o : Option Ent}, L[i]? = some o → ∀ j, j < 8 → (encL L)[i * 8 + j]? = (encO o)[j]? := by
  induction L with
  | nil => intro i o h; simp at h
  | cons z L ih =>
    intro i o h j hj
    unfold encL at ih ⊢
    rw [List.flatMap_cons, List.getElem?_append, encO_len]
    cases i with
    | zero =>
      obtain rfl : z = o := by simpa using h
      rw [if_pos (by omega)]; congr 1; omega
    | succ i =>
      rw [if_neg (by omega), ← ih (by simpa using h) j hj]; congr 1; omega
def GoodE (x : Ent) : Prop := GoodA x.key ∧ I64 x.lv ∧ I64 x.va
def idV (i : Nat) : Value := .int .i64 i
/-- An arena in memory; lv: how much lives as it says; X: what is neither free nor anything yet. -/
structure ArAt (b : Nat) (S : ArS) (arr : Array Value) (v1 v3 : Value) (bm n : Nat) (fr : List Nat) (g : AKey → Option Nat) (vs : List Value) (w : World) (F : Nat → Prop) (lv : Nat) (X : Nat → Prop) : Prop where
  ok : ArOk S
  good : ∀ i x, atL S.L i = some x → GoodE x
  own : w.heap[b]? = some (.cells arr 86 (0, 0))
  size : arr.size = 197
  c0 : arr[0]? = some (.int .i64 S.room)
  c1 : arr[1]? = some v1
  c2 : arr[2]? = some (.map (some bm))
  c3 : arr[3]? = some v3
  c4 : ∀ t, t < 64 → arr[4 + t]? = some (.int .i64 (countL S.L t))
  c5 : ∀ t, t < 64 → arr[68 + t]? = some (.int .i64 (S.quo t))
  c6 : ∀ t, t < 64 → arr[132 + t]? = vs[t]?
  c7 : arr[196]? = some (.int .i64 lv)
  list : Row w 211 8 v1 S.L.length (encL S.L)
  map : MapOf keyA GoodA w bm n (fun k => (g k).map idV)
  keys : ∀ k i, g k = some i ↔ ∃ x, atL S.L i = some x ∧ x.key = k
  free : Row w 3 1 v3 fr.length (fr.map idV)
  heap : HeapN fr.length fr
  nodup : fr.Nodup
  frees : ∀ i, i ∈ fr ↔ 2 ≤ i ∧ i < S.L.length ∧ atL S.L i = none ∧ ¬ X i
  len : vs.length = 64
  rows : ∀ (t : Nat) (v : Value), vs[t]? = some v → Row w 3 1 v (S.add t).length ((S.add t).map idV)
  fb : F b
  fm : F bm
  f1 : ∀ (q : Nat), v1.ownBlock = some q → F q
  f3 : ∀ (q : Nat), v3.ownBlock = some q → F q
  fv : ∀ (t : Nat) (v : Value) (q : Nat), vs[t]? = some v → v.ownBlock = some q → F q
  lt : ∀ i, F i → i < w.heap.size
  apart3 : ∀ (t : Nat) (v : Value) (q : Nat), vs[t]? = some v → v.ownBlock = some q → v3.ownBlock ≠ some q
  apart : ∀ (t s : Nat) (v u : Value) (q : Nat), t ≠ s → vs[t]? = some v → vs[s]? = some u → v.ownBlock = some q → u.ownBlock ≠ some q
def IsAr (b : Nat) (S : ArS) (w : World) (F : Nat → Prop) : Prop := ∃ arr v1 v3 bm n fr g vs, ArAt b S arr v1 v3 bm n fr g vs w F (liveL S.L) (fun _ => False)
section
variable {b : Nat} {S : ArS} {arr : Array Value} {v1 v3 : Value} {bm n : Nat} {fr : List Nat} {g : AKey → Option Nat} {vs : List Value} {w w' : World} {F G : Nat → Prop} {lv : Nat} {X : Nat → Prop}
theorem ArAt.keep (h : ArAt b S arr v1 v3 bm n fr g vs w F lv X) (k : Keeps G w w') (hd : ∀ i, F i → ¬ G i) : ArAt b S arr v1 v3 bm n fr g vs w' F lv X := by
  have blk : ∀ i, F i → w'.heap[i]? = w.heap[i]? := fun i hi => k.block i (h.lt i hi) (hd i hi)
  exact { h with
    own := (blk b h.fb).trans h.own
    list := h.list.keep fun q hq => blk q (h.f1 q hq)
    map := h.map.keep (blk bm h.fm)
    free := h.free.keep fun q hq => blk q (h.f3 q hq)
    rows := fun t v hv => (h.rows t v hv).keep fun q hq => blk q (h.fv t v q hv hq)
    lt := fun i hi => Nat.lt_of_lt_of_le (h.lt i hi) k.size }
theorem IsAr.keep (h : IsAr b S w F) (k : Keeps G w w') (hd : ∀ i, F i → ¬ G i) : IsAr b S w' F := by
  obtain ⟨_, _, _, _, _, _, _, _, h⟩ := h
  exact ⟨_, _, _, _, _, _, _, _, h.keep k hd⟩
theorem IsAr.lt (h : IsAr b S w F) : ∀ i, F i → i < w.heap.size := by obtain ⟨_, _, _, _, _, _, _, _, h⟩ := h; exact h.lt
theorem IsAr.below (h : IsAr b S w F) (hb : Below w.heap.size w w') : IsAr b S w' F := h.keep (Keeps.of_below (F := fun _ => False) hb) (fun _ _ h => h)
theorem IsAr.ok (h : IsAr b S w F) : ArOk S := by obtain ⟨_, _, _, _, _, _, _, _, h⟩ := h; exact h.ok
theorem ArAt.cell (h : ArAt b S arr v1 v3 bm n fr g vs w F lv X) (j : Nat) : w.cell? ⟨b, j, none⟩ = arr[j]? := Joins.cell_of_block h.own j
/-- Where the list lies, and its cells. -/
theorem ArAt.ents (h : ArAt b S arr v1 v3 bm n fr g vs w F lv X) : ∃ q o c, v1 = .slice (some ⟨q, o, none⟩) S.L.length c ∧ F q ∧ q ≠ b ∧ ∀ i u, S.L[i]? = some u → ∀ j, j < 8 → w.cell? ⟨q, o + i * 8 + j, none⟩ = (encO u)[j]? := by
  obtain ⟨a, c, hv, hc, hm, ha⟩ := h.list.form
  have h2 := h.ok.two
  have hl := h.list
  have hF := h.f1
  have hne := h.list.ne_type h.own (by decide)
  rw [hv] at hl hF hne
  obtain ⟨q, o, rfl, hcell, _, _⟩ := hl.cells (by omega)
  refine ⟨q, o, c, hv, hF q rfl, fun e => hne (by rw [e]; rfl), fun i u hi j hj => ?_⟩
  have hlt := (List.getElem?_eq_some_iff.1 hi).1
  rw [Nat.add_assoc, hcell (i * 8 + j) (by omega), encL_at hi j hj]
end
set_option maxHeartbeats 1000000 in
theorem tenant_any (t : Int) (w : World) : Calls Tryz.prog 30 #[.int .i64 t] w fun e w' => e = .returned (.bool (decide (0 ≤ t) && decide (t < 64))) ∧ w' = w := by
  rcases (show t < 0 ∨ 0 ≤ t by omega) with h | h
  · have h1 : decide (t ≥ 0) = false := decide_eq_false (by omega)
    have h2 : decide (0 ≤ t) = false := decide_eq_false (by omega)
    rw [h2]
    go_enter Tryz.func30, Tryz.ntmps30
    go_wp2_with fail
    go_ret
    exact ⟨rfl, rfl⟩
  · have h1 : decide (t ≥ 0) = true := decide_eq_true (by omega)
    have h2 : decide (0 ≤ t) = true := decide_eq_true (by omega)
    rw [h2, Bool.true_and]
    go_enter Tryz.func30, Tryz.ntmps30
    go_wp2_with fail
    go_ret
    exact ⟨rfl, rfl⟩
end Go.Proofs.YtabhpbkkjijfjaaGreatDoor
