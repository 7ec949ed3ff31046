/-
  A new thing at a number that was taken: plain, and in memory.
-/
import Derived.Test.YtabhpbkkjijfjaaGreatDoorZHouseLogsArTaken
namespace Go.Proofs.YtabhpbkkjijfjaaGreatDoor
set_option maxRecDepth 100000
open Go.RowKit

theorem mine_none (t : Nat) : mine t none = false := rfl
theorem mine_new (t : Nat) (k : AKey) (lv va : Int) : mine t (some (entOf k lv va 0)) = false := by simp [mine, entOf]
theorem count_put {L : List (Option Ent)} {i : Nat} {k : AKey} {lv va : Int} (hn : L[i]? = some none) (s : Nat) : countL (L.set i (some (entOf k lv va 0))) s = countL L s := by
  have h := countP_set (mine s) L i none (some (entOf k lv va 0)) hn
  unfold countL
  rw [mine_none, mine_new] at h
  simpa using h
theorem live_put {L : List (Option Ent)} {i : Nat} {x : Ent} (hn : L[i]? = some none) : liveL (L.set i (some x)) = liveL L + 1 := by
  have h := countP_set Option.isSome L i none (some x) hn
  unfold liveL
  simpa using h
theorem none_at {L : List (Option Ent)} {i : Nat} (hi : i < L.length) (h : atL L i = none) : L[i]? = some none := by
  rw [List.getElem?_eq_getElem hi]
  unfold atL at h
  rw [List.getElem?_eq_getElem hi] at h
  exact congrArg some h
theorem putA_ok {S : ArS} {i : Nat} {k : AKey} {lv va : Int} (h : ArOk S) (h2 : 2 ≤ i) (hi : i < S.L.length) (hn : atL S.L i = none) (hk : ∀ j x, atL S.L j = some x → x.key ≠ k) (hl : liveL S.L < S.room) : ArOk (putA S i k lv va) := by
  have hno := none_at hi hn
  have ha : ∀ j, atL (S.L.set i (some (entOf k lv va 0))) j = if i = j then some (entOf k lv va 0) else atL S.L j := fun j => atL_set hi
  refine ⟨h.room, by simp only [putA, List.length_set]; exact h.two, ?_, ?_, by simp only [putA, List.length_set]; exact h.long, by simp only [putA, live_put hno]; omega, ?_, ?_, h.quota, h.quotaR, h.added, fun t l hl' => by simp only [putA, count_put hno]; exact h.few t l hl'⟩
  · simp only [putA, ha]; rw [if_neg (by omega)]; exact h.nil0
  · simp only [putA, ha]; rw [if_neg (by omega)]; exact h.nil1
  · intro a c y z hy hz hyz
    simp only [putA, ha] at hy hz
    by_cases e1 : i = a
    · rw [if_pos e1] at hy
      cases hy
      by_cases e2 : i = c
      · omega
      · rw [if_neg e2] at hz
        exact absurd hyz.symm (hk c z hz)
    · rw [if_neg e1] at hy
      by_cases e2 : i = c
      · rw [if_pos e2] at hz
        cases hz
        exact absurd hyz (hk a y hy)
      · rw [if_neg e2] at hz
        exact h.uniq a c y z hy hz hyz
  · intro a y hy
    simp only [putA, ha] at hy
    by_cases e1 : i = a
    · rw [if_pos e1] at hy
      cases hy
      simp [entOf]
    · rw [if_neg e1] at hy
      exact h.mask a y hy
theorem ArAt.put {b : Nat} {S : ArS} {arr : Array Value} {v1 v3 : Value} {bm n i : Nat} {fr : List Nat} {g : AKey → Option Nat} {vs : List Value} {w w' : World} {F : Nat → Prop} {k : AKey} {lv va : Int}
    (h : ArAt b S arr v1 v3 bm n fr g vs w F (liveL S.L + 1) (fun j => j = i)) (h2 : 2 ≤ i) (hi : i < S.L.length) (hn : atL S.L i = none) (hkn : ∀ j x, atL S.L j = some x → x.key ≠ k) (hl : liveL S.L < S.room)
    (hg : GoodA k) (h64 : I64 lv ∧ I64 va) (hlist : Row w' 211 8 v1 S.L.length (encL (S.L.set i (some (entOf k lv va 0))))) (hmap : MapOf keyA GoodA w' bm (n + 1) (updM (fun k => (g k).map idV) k (idV i)))
    (hk : Keeps (fun q => q = bm ∨ v1.ownBlock = some q) w w') :
    ArAt b (putA S i k lv va) arr v1 v3 bm (n + 1) fr (fun k' => if k' = k then some i else g k') vs w' F (liveL (putA S i k lv va).L) (fun _ => False) := by
  have hno := none_at hi hn
  have ha : ∀ j, atL (S.L.set i (some (entOf k lv va 0))) j = if i = j then some (entOf k lv va 0) else atL S.L j := fun j => atL_set hi
  have blk : ∀ q, q < w.heap.size → q ≠ bm → v1.ownBlock ≠ some q → w'.heap[q]? = w.heap[q]? := fun q hq h1 h2 => hk.block q hq (fun e => by rcases e with e | e; exact h1 e; exact h2 e)
  have ef : (fun k' => (if k' = k then some i else g k').map idV) = updM (fun k => (g k).map idV) k (idV i) := by
    funext k'
    unfold updM
    by_cases e : k' = k
    · rw [if_pos e, if_pos e]; rfl
    · rw [if_neg e, if_neg e]
  exact { h with
    ok := putA_ok h.ok h2 hi hn hkn hl
    good := fun j y hy => by
      simp only [putA, ha] at hy
      by_cases e : i = j
      · rw [if_pos e] at hy
        cases hy
        exact ⟨hg, h64⟩
      · rw [if_neg e] at hy; exact h.good j y hy
    own := (blk b (lt_of_block h.own) (fun e => h.nm e.symm) h.n1).trans h.own
    c4 := fun s hs' => by simp only [putA, count_put hno]; exact h.c4 s hs'
    c7 := by simp only [putA, live_put hno]; exact h.c7
    list := by simp only [putA, List.length_set]; exact hlist
    map := by rw [ef]; exact hmap
    keys := fun k' j => by
      simp only [putA, ha]
      by_cases e : k' = k
      · subst e
        rw [if_pos rfl]
        constructor
        · intro e1
          cases e1
          exact ⟨_, if_pos rfl, rfl⟩
        · rintro ⟨y, h1, h2⟩
          by_cases e2 : i = j
          · rw [e2]
          · rw [if_neg e2] at h1
            exact absurd h2 (hkn j y h1)
      · rw [if_neg e, h.keys k' j]
        by_cases e2 : i = j
        · subst e2
          rw [if_pos rfl]
          constructor
          · rintro ⟨y, h1, _⟩
            rw [hn] at h1; cases h1
          · rintro ⟨y, h1, h2⟩
            cases h1
            exact absurd h2.symm e
        · rw [if_neg e2]
    free := h.free.keep fun q hq => blk q (h.free.lt q hq) (fun e => map_apart h.map h.free (by rw [← e]; exact hq)) (rows_apart h.free h.list (by decide) hq)
    frees := fun j => by
      simp only [putA, ha, List.length_set]
      rw [h.frees j]
      by_cases e : i = j
      · subst e
        rw [if_pos rfl]
        simp
      · rw [if_neg e]
        constructor
        · rintro ⟨a1, a2, a3, _⟩; exact ⟨a1, a2, a3, fun h => h⟩
        · rintro ⟨a1, a2, a3, _⟩; exact ⟨a1, a2, a3, fun h => e h.symm⟩
    rows := fun s u hu => (h.rows s u hu).keep fun q hq => blk q ((h.rows s u hu).lt q hq) (fun e => map_apart h.map (h.rows s u hu) (by rw [← e]; exact hq)) (rows_apart (h.rows s u hu) h.list (by decide) hq)
    lt := fun q hq => Nat.lt_of_lt_of_le (h.lt q hq) hk.size }
theorem row_cell {w : World} {q o c id k : Nat} {L : List (Option Ent)} {u o' : Option Ent} {v : Value} (h : Row w 211 8 (.slice (some ⟨q, o, none⟩) L.length c) L.length (encL L)) (hu : L[id]? = some u) (hk : k < 8) (ho : encO o' = (encO u).set k v) :
    Row (w.setCell ⟨q, o + id * 8 + k, none⟩ v) 211 8 (.slice (some ⟨q, o, none⟩) (L.set id o').length c) (L.set id o').length (encL (L.set id o')) := by
  have h1 := h.stored (id * 8 + k) v
  rw [encL_set hk ho hu, ← Nat.add_assoc] at h1
  rw [List.length_set]
  exact h1
theorem row_next {w : World} {q o c id k : Nat} {L : List (Option Ent)} {u o' : Option Ent} {v : Value} (hi : id < L.length) (h : Row w 211 8 (.slice (some ⟨q, o, none⟩) (L.set id u).length c) (L.set id u).length (encL (L.set id u))) (hk : k < 8) (ho : encO o' = (encO u).set k v) :
    Row (w.setCell ⟨q, o + id * 8 + k, none⟩ v) 211 8 (.slice (some ⟨q, o, none⟩) (L.set id o').length c) (L.set id o').length (encL (L.set id o')) := by
  have h1 := row_cell (u := u) h (List.getElem?_set_self hi) hk ho
  rwa [List.set_set] at h1
theorem swept_at {L : List (Option Ent)} {j : Nat} {x : Ent} (h : atL (sweptL L) j = some x) : atL L j = some x := by
  rw [atL_some, sweptL, List.getElem?_map] at h
  rw [atL_some]
  cases ho : L[j]? with
  | none => rw [ho] at h; cases h
  | some u =>
    rw [ho] at h
    cases u with
    | none => simp at h
    | some y =>
      simp only [Option.map_some, Option.some.injEq] at h
      split at h
      · cases h
      · cases h; rfl
theorem live_room (S : ArS) (i : Nat) : liveL (roomA S i).L = liveL S.L := by
  unfold roomA
  simp only
  split
  · rfl
  · simp [liveL]
theorem room_at (S : ArS) (i j : Nat) : atL (roomA S i).L j = atL S.L j := by
  unfold roomA
  simp only
  split
  · rfl
  · exact atL_none
theorem Row.drew' {w : World} {e : TypeId} {size n : Nat} {v : Value} {xs : List Value} (h : Row w e size v n xs) : Row w.drew e size v n xs := h.keep fun _ _ => rfl
/-- A whole entry stored. -/
theorem row_ent {w : World} {q o c id : Nat} {L : List (Option Ent)} {u : Option Ent} (h : Row w 211 8 (.slice (some ⟨q, o, none⟩) L.length c) L.length (encL L)) (hu : L[id]? = some u) (k0 k1 k2 k3 k4 lv va : Int) :
    Row ((((((((w.setCell ⟨q, o + id * 8, none⟩ (.int .i64 k0)).setCell ⟨q, o + id * 8 + 1, none⟩ (.int .i64 k1)).setCell ⟨q, o + id * 8 + 2, none⟩ (.int .i64 k2)).setCell ⟨q, o + id * 8 + 3, none⟩ (.int .i64 k3)).setCell ⟨q, o + id * 8 + 4, none⟩ (.int .i64 k4)).setCell ⟨q, o + id * 8 + 5, none⟩ (.int .i64 lv)).setCell ⟨q, o + id * 8 + 6, none⟩ (.int .i64 va)).setCell ⟨q, o + id * 8 + 7, none⟩ (.int .u64 0))
      211 8 (.slice (some ⟨q, o, none⟩) L.length c) L.length (encL (L.set id (some ⟨k0, k1, k2, k3, k4, lv, va, 0⟩))) := by
  have hi := (List.getElem?_eq_some_iff.1 hu).1
  obtain ⟨x, hx⟩ : ∃ x, x = u.getD zeroE := ⟨_, rfl⟩
  have h0 := row_cell (k := 0) (o' := some { x with k := k0 }) (v := .int .i64 k0) h hu (by omega) (by rw [hx]; rfl)
  rw [Nat.add_zero] at h0
  have h1 := row_next hi h0 (k := 1) (o' := some { x with k := k0, a := k1 }) (v := .int .i64 k1) (by omega) rfl
  have h2 := row_next hi h1 (k := 2) (o' := some { x with k := k0, a := k1, b := k2 }) (v := .int .i64 k2) (by omega) rfl
  have h3 := row_next hi h2 (k := 3) (o' := some { x with k := k0, a := k1, b := k2, c := k3 }) (v := .int .i64 k3) (by omega) rfl
  have h4 := row_next hi h3 (k := 4) (o' := some { x with k := k0, a := k1, b := k2, c := k3, d := k4 }) (v := .int .i64 k4) (by omega) rfl
  have h5 := row_next hi h4 (k := 5) (o' := some { x with k := k0, a := k1, b := k2, c := k3, d := k4, lv := lv }) (v := .int .i64 lv) (by omega) rfl
  have h6 := row_next hi h5 (k := 6) (o' := some { x with k := k0, a := k1, b := k2, c := k3, d := k4, lv := lv, va := va }) (v := .int .i64 va) (by omega) rfl
  have h7 := row_next hi h6 (k := 7) (o' := some ⟨k0, k1, k2, k3, k4, lv, va, 0⟩) (v := .int .u64 0) (by omega) rfl
  rw [List.length_set] at h7
  exact h7
theorem keeps_ent {w : World} {q a : Nat} {G : Nat → Prop} (hG : G q) (k0 k1 k2 k3 k4 k5 k6 k7 : Value) : Keeps G w ((((((((w.setCell ⟨q, a, none⟩ k0).setCell ⟨q, a + 1, none⟩ k1).setCell ⟨q, a + 2, none⟩ k2).setCell ⟨q, a + 3, none⟩ k3).setCell ⟨q, a + 4, none⟩ k4).setCell ⟨q, a + 5, none⟩ k5).setCell ⟨q, a + 6, none⟩ k6).setCell ⟨q, a + 7, none⟩ k7) :=
  (((((((((Keeps.refl G w).setCell (p := ⟨q, a, none⟩) (fun _ => hG) k0).setCell (p := ⟨q, a + 1, none⟩) (fun _ => hG) k1).setCell (p := ⟨q, a + 2, none⟩) (fun _ => hG) k2).setCell (p := ⟨q, a + 3, none⟩) (fun _ => hG) k3).setCell (p := ⟨q, a + 4, none⟩) (fun _ => hG) k4).setCell (p := ⟨q, a + 5, none⟩) (fun _ => hG) k5).setCell (p := ⟨q, a + 6, none⟩) (fun _ => hG) k6).setCell (p := ⟨q, a + 7, none⟩) (fun _ => hG) k7)
end Go.Proofs.YtabhpbkkjijfjaaGreatDoor
