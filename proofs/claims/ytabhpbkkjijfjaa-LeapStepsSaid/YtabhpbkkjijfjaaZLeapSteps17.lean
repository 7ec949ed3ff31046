/-
  A new thing at a number that was taken: plain, and in memory; A thing that is nobody's taken away: plain, and in memory.
-/
import Derived.Test.YtabhpbkkjijfjaaZLeapStepsArTaken
namespace Go.Proofs.Ytabhpbkkjijfjaa
set_option maxRecDepth 100000
open Go.RowKit

theorem mine_none (t : Nat) : mine t none = false := rfl
theorem mine_new (t : Nat) (k : AKey) (lv va : Int) : mine t (some (entOf k lv va 0)) = false := by simp [mine, entOf]
theorem count_put {L : List (Option Ent)} {i : Nat} {k : AKey} {lv va : Int} (hn : L[i]? = some none) (s : Nat) : countL (L.set i (some (entOf k lv va 0))) s = countL L s := by
  have h := countP_set (mine s) L i none (some (entOf k lv va 0)) hn
  unfold countL
  rw [mine_none, mine_new] at h
  simpa using h
theorem live_put {L : List (Option Ent)} {i : Nat} {x : Ent} (hn : L[i]? = some none) : liveL (L.set i (some x)) = liveL L + 1 := by
  have h := countP_set Option.isSome L i none (some x) hn
  unfold liveL
  simpa using h
theorem none_at {L : List (Option Ent)} {i : Nat} (hi : i < L.length) (h : atL L i = none) : L[i]? = some none := by
  rw [List.getElem?_eq_getElem hi]
  unfold atL at h
  rw [List.getElem?_eq_getElem hi] at h
  exact congrArg some h
theorem putA_ok {S : ArS} {i : Nat} {k : AKey} {lv va : Int} (h : ArOk S) (h2 : 2 ≤ i) (hi : i < S.L.length) (hn : atL S.L i = none) (hk : ∀ j x, atL S.L j = some x → x.key ≠ k) (hl : liveL S.L < S.room) : ArOk (putA S i k lv va) := by
  have hno := none_at hi hn
  have ha : ∀ j, atL (S.L.set i (some (entOf k lv va 0))) j = if i = j then some (entOf k lv va 0) else atL S.L j := fun j => atL_set hi
  refine ⟨h.room, by simp only [putA, List.length_set]; exact h.two, ?_, ?_, by simp only [putA, List.length_set]; exact h.long, by simp only [putA, live_put hno]; omega, ?_, ?_, h.quota, h.quotaR, h.added, fun t l hl' => by simp only [putA, count_put hno]; exact h.few t l hl'⟩
  · simp only [putA, ha]; rw [if_neg (by omega)]; exact h.nil0
  · simp only [putA, ha]; rw [if_neg (by omega)]; exact h.nil1
  · intro a c y z hy hz hyz
    simp only [putA, ha] at hy hz
    by_cases e1 : i = a
    · rw [if_pos e1] at hy
      cases hy
      by_cases e2 : i = c
      · omega
      · rw [if_neg e2] at hz
        exact absurd hyz.symm (hk c z hz)
    · rw [if_neg e1] at hy
      by_cases e2 : i = c
      · rw [if_pos e2] at hz
        cases hz
        exact absurd hyz (hk a y hy)
      · rw [if_neg e2] at hz
        exact h.uniq a c y z hy hz hyz
  · intro a y hy
    simp only [putA, ha] at hy
    by_cases e1 : i = a
    · rw [if_pos e1] at hy
      cases hy
      simp [entOf]
    · rw [if_neg e1] at hy
      exact h.mask a y hy
theorem ArAt.put {b : Nat} {S : ArS} {arr : Array Value} {v1 v3 : Value} {bm n i : Nat} {fr : List Nat} {g : AKey → Option Nat} {vs : List Value} {w w' : World} {F : Nat → Prop} {k : AKey} {lv va : Int}
    (h : ArAt b S arr v1 v3 bm n fr g vs w F (liveL S.L + 1) (fun j => j = i)) (h2 : 2 ≤ i) (hi : i < S.L.length) (hn : atL S.L i = none) (hkn : ∀ j x, atL S.L j = some x → x.key ≠ k) (hl : liveL S.L < S.room)
    (hg : GoodA k) (h64 : I64 lv ∧ I64 va) (hlist : Row w' 95 8 v1 S.L.length (encL (S.L.set i (some (entOf k lv va 0))))) (hmap : MapOf keyA GoodA w' bm (n + 1) (updM (fun k => (g k).map idV) k (idV i)))
    (hk : Keeps (fun q => q = bm ∨ v1.ownBlock = some q) w w') :
    ArAt b (putA S i k lv va) arr v1 v3 bm (n + 1) fr (fun k' => if k' = k then some i else g k') vs w' F (liveL (putA S i k lv va).L) (fun _ => False) := by
  have hno := none_at hi hn
  have ha : ∀ j, atL (S.L.set i (some (entOf k lv va 0))) j = if i = j then some (entOf k lv va 0) else atL S.L j := fun j => atL_set hi
  have blk : ∀ q, q < w.heap.size → q ≠ bm → v1.ownBlock ≠ some q → w'.heap[q]? = w.heap[q]? := fun q hq h1 h2 => hk.block q hq (fun e => by rcases e with e | e; exact h1 e; exact h2 e)
  have ef : (fun k' => (if k' = k then some i else g k').map idV) = updM (fun k => (g k).map idV) k (idV i) := by
    funext k'
    unfold updM
    by_cases e : k' = k
    · rw [if_pos e, if_pos e]; rfl
    · rw [if_neg e, if_neg e]
  exact { h with
    ok := putA_ok h.ok h2 hi hn hkn hl
    good := fun j y hy => by
      simp only [putA, ha] at hy
      by_cases e : i = j
      · rw [if_pos e] at hy
        cases hy
        exact ⟨hg, h64⟩
      · rw [if_neg e] at hy; exact h.good j y hy
    own := (blk b (lt_of_block h.own) (fun e => h.nm e.symm) h.n1).trans h.own
    c4 := fun s hs' => by simp only [putA, count_put hno]; exact h.c4 s hs'
    c7 := by simp only [putA, live_put hno]; exact h.c7
    list := by simp only [putA, List.length_set]; exact hlist
    map := by rw [ef]; exact hmap
    keys := fun k' j => by
      simp only [putA, ha]
      by_cases e : k' = k
      · subst e
        rw [if_pos rfl]
        constructor
        · intro e1
          cases e1
          exact ⟨_, if_pos rfl, rfl⟩
        · rintro ⟨y, h1, h2⟩
          by_cases e2 : i = j
          · rw [e2]
          · rw [if_neg e2] at h1
            exact absurd h2 (hkn j y h1)
      · rw [if_neg e, h.keys k' j]
        by_cases e2 : i = j
        · subst e2
          rw [if_pos rfl]
          constructor
          · rintro ⟨y, h1, _⟩
            rw [hn] at h1; cases h1
          · rintro ⟨y, h1, h2⟩
            cases h1
            exact absurd h2.symm e
        · rw [if_neg e2]
    free := h.free.keep fun q hq => blk q (h.free.lt q hq) (fun e => map_apart h.map h.free (by rw [← e]; exact hq)) (rows_apart h.free h.list (by decide) hq)
    frees := fun j => by
      simp only [putA, ha, List.length_set]
      rw [h.frees j]
      by_cases e : i = j
      · subst e
        rw [if_pos rfl]
        simp
      · rw [if_neg e]
        constructor
        · rintro ⟨a1, a2, a3, _⟩; exact ⟨a1, a2, a3, fun h => h⟩
        · rintro ⟨a1, a2, a3, _⟩; exact ⟨a1, a2, a3, fun h => e h.symm⟩
    rows := fun s u hu => (h.rows s u hu).keep fun q hq => blk q ((h.rows s u hu).lt q hq) (fun e => map_apart h.map (h.rows s u hu) (by rw [← e]; exact hq)) (rows_apart (h.rows s u hu) h.list (by decide) hq)
    lt := fun q hq => Nat.lt_of_lt_of_le (h.lt q hq) hk.size }
theorem row_cell {w : World} {q o c id k : Nat} {L : List (Option Ent)} {u o' : Option Ent} {v : Value} (h : Row w 95 8 (.slice (some ⟨q, o, none⟩) L.length c) L.length (encL L)) (hu : L[id]? = some u) (hk : k < 8) (ho : encO o' = (encO u).set k v) :
    Row (w.setCell ⟨q, o + id * 8 + k, none⟩ v) 95 8 (.slice (some ⟨q, o, none⟩) (L.set id o').length c) (L.set id o').length (encL (L.set id o')) := by
  have h1 := h.stored (id * 8 + k) v
  rw [encL_set hk ho hu, ← Nat.add_assoc] at h1
  rw [List.length_set]
  exact h1
theorem row_next {w : World} {q o c id k : Nat} {L : List (Option Ent)} {u o' : Option Ent} {v : Value} (hi : id < L.length) (h : Row w 95 8 (.slice (some ⟨q, o, none⟩) (L.set id u).length c) (L.set id u).length (encL (L.set id u))) (hk : k < 8) (ho : encO o' = (encO u).set k v) :
    Row (w.setCell ⟨q, o + id * 8 + k, none⟩ v) 95 8 (.slice (some ⟨q, o, none⟩) (L.set id o').length c) (L.set id o').length (encL (L.set id o')) := by
  have h1 := row_cell (u := u) h (List.getElem?_set_self hi) hk ho
  rwa [List.set_set] at h1
theorem swept_at {L : List (Option Ent)} {j : Nat} {x : Ent} (h : atL (sweptL L) j = some x) : atL L j = some x := by
  rw [atL_some, sweptL, List.getElem?_map] at h
  rw [atL_some]
  cases ho : L[j]? with
  | none => rw [ho] at h; cases h
  | some u =>
    rw [ho] at h
    cases u with
    | none => simp at h
    | some y =>
      simp only [Option.map_some, Option.some.injEq] at h
      split at h
      · cases h
      · cases h; rfl
theorem live_room (S : ArS) (i : Nat) : liveL (roomA S i).L = liveL S.L := by
  unfold roomA
  simp only
  split
  · rfl
  · simp [liveL]
theorem room_at (S : ArS) (i j : Nat) : atL (roomA S i).L j = atL S.L j := by
  unfold roomA
  simp only
  split
  · rfl
  · exact atL_none
theorem Row.drew' {w : World} {e : TypeId} {size n : Nat} {v : Value} {xs : List Value} (h : Row w e size v n xs) : Row w.drew e size v n xs := h.keep fun _ _ => rfl
/-- A whole entry stored. -/
theorem row_ent {w : World} {q o c id : Nat} {L : List (Option Ent)} {u : Option Ent} (h : Row w 95 8 (.slice (some ⟨q, o, none⟩) L.length c) L.length (encL L)) (hu : L[id]? = some u) (k0 k1 k2 k3 k4 lv va : Int) :
    Row ((((((((w.setCell ⟨q, o + id * 8, none⟩ (.int .i64 k0)).setCell ⟨q, o + id * 8 + 1, none⟩ (.int .i64 k1)).setCell ⟨q, o + id * 8 + 2, none⟩ (.int .i64 k2)).setCell ⟨q, o + id * 8 + 3, none⟩ (.int .i64 k3)).setCell ⟨q, o + id * 8 + 4, none⟩ (.int .i64 k4)).setCell ⟨q, o + id * 8 + 5, none⟩ (.int .i64 lv)).setCell ⟨q, o + id * 8 + 6, none⟩ (.int .i64 va)).setCell ⟨q, o + id * 8 + 7, none⟩ (.int .u64 0))
      95 8 (.slice (some ⟨q, o, none⟩) L.length c) L.length (encL (L.set id (some ⟨k0, k1, k2, k3, k4, lv, va, 0⟩))) := by
  have hi := (List.getElem?_eq_some_iff.1 hu).1
  obtain ⟨x, hx⟩ : ∃ x, x = u.getD zeroE := ⟨_, rfl⟩
  have h0 := row_cell (k := 0) (o' := some { x with k := k0 }) (v := .int .i64 k0) h hu (by omega) (by rw [hx]; rfl)
  rw [Nat.add_zero] at h0
  have h1 := row_next hi h0 (k := 1) (o' := some { x with k := k0, a := k1 }) (v := .int .i64 k1) (by omega) rfl
  have h2 := row_next hi h1 (k := 2) (o' := some { x with k := k0, a := k1, b := k2 }) (v := .int .i64 k2) (by omega) rfl
  have h3 := row_next hi h2 (k := 3) (o' := some { x with k := k0, a := k1, b := k2, c := k3 }) (v := .int .i64 k3) (by omega) rfl
  have h4 := row_next hi h3 (k := 4) (o' := some { x with k := k0, a := k1, b := k2, c := k3, d := k4 }) (v := .int .i64 k4) (by omega) rfl
  have h5 := row_next hi h4 (k := 5) (o' := some { x with k := k0, a := k1, b := k2, c := k3, d := k4, lv := lv }) (v := .int .i64 lv) (by omega) rfl
  have h6 := row_next hi h5 (k := 6) (o' := some { x with k := k0, a := k1, b := k2, c := k3, d := k4, lv := lv, va := va }) (v := .int .i64 va) (by omega) rfl
  have h7 := row_next hi h6 (k := 7) (o' := some ⟨k0, k1, k2, k3, k4, lv, va, 0⟩) (v := .int .u64 0) (by omega) rfl
  rw [List.length_set] at h7
  exact h7
theorem keeps_ent {w : World} {q a : Nat} {G : Nat → Prop} (hG : G q) (k0 k1 k2 k3 k4 k5 k6 k7 : Value) : Keeps G w ((((((((w.setCell ⟨q, a, none⟩ k0).setCell ⟨q, a + 1, none⟩ k1).setCell ⟨q, a + 2, none⟩ k2).setCell ⟨q, a + 3, none⟩ k3).setCell ⟨q, a + 4, none⟩ k4).setCell ⟨q, a + 5, none⟩ k5).setCell ⟨q, a + 6, none⟩ k6).setCell ⟨q, a + 7, none⟩ k7) :=
  (((((((((Keeps.refl G w).setCell (p := ⟨q, a, none⟩) (fun _ => hG) k0).setCell (p := ⟨q, a + 1, none⟩) (fun _ => hG) k1).setCell (p := ⟨q, a + 2, none⟩) (fun _ => hG) k2).setCell (p := ⟨q, a + 3, none⟩) (fun _ => hG) k3).setCell (p := ⟨q, a + 4, none⟩) (fun _ => hG) k4).setCell (p := ⟨q, a + 5, none⟩) (fun _ => hG) k5).setCell (p := ⟨q, a + 6, none⟩) (fun _ => hG) k6).setCell (p := ⟨q, a + 7, none⟩) (fun _ => hG) k7)
end Go.Proofs.Ytabhpbkkjijfjaa
namespace Go.Proofs.Ytabhpbkkjijfjaa
set_option maxRecDepth 100000
open Go.RowKit

def sweepO (o : Option Ent) : Option Ent := match o with
  | none => none
  | some x => if x.ma = 0 then none else some x
theorem sweptL_map (L : List (Option Ent)) : sweptL L = L.map sweepO := rfl
/-- The first k numbers are swept. -/
def sweptTo (L : List (Option Ent)) (k : Nat) : List (Option Ent) := sweptL (L.take k) ++ L.drop k
theorem sweptTo_len (L : List (Option Ent)) (k : Nat) : (sweptTo L k).length = L.length := by
  unfold sweptTo sweptL
  rw [List.length_append, List.length_map, ← List.length_append, List.take_append_drop]
theorem sweptTo_get (L : List (Option Ent)) (k j : Nat) : (sweptTo L k)[j]? = if j < k then L[j]?.map sweepO else L[j]? := by
  unfold sweptTo
  rw [sweptL_map]
  by_cases h1 : j < k
  · rw [if_pos h1]
    by_cases h2 : j < L.length
    · rw [List.getElem?_append_left (by simp; omega), List.getElem?_map, List.getElem?_take, if_pos h1]
    · rw [List.getElem?_eq_none (by simp; omega), List.getElem?_eq_none (by omega)]; rfl
  · rw [if_neg h1]
    by_cases h2 : k ≤ L.length
    · rw [List.getElem?_append_right (by simp; omega), List.getElem?_drop, List.length_map, List.length_take]
      congr 1; omega
    · rw [List.getElem?_eq_none (by simp; omega), List.getElem?_eq_none (by omega)]
theorem sweptTo_all (L : List (Option Ent)) : sweptTo L L.length = sweptL L := by simp [sweptTo]
theorem sweptTo_two {S : ArS} (h : ArOk S) : sweptTo S.L 2 = S.L := by
  apply List.ext_getElem?
  intro j
  rw [sweptTo_get]
  split
  · next hj =>
    have : atL S.L j = none := by
      rcases (show j = 0 ∨ j = 1 by omega) with rfl | rfl
      · exact h.nil0
      · exact h.nil1
    unfold atL at this
    cases ho : S.L[j]? with
    | none => rfl
    | some o =>
      rw [ho] at this
      cases o with
      | none => rfl
      | some x => cases this
  · rfl
theorem sweptTo_keep {L : List (Option Ent)} {k : Nat} (h : L[k]?.map sweepO = L[k]?) : sweptTo L (k + 1) = sweptTo L k := by
  apply List.ext_getElem?
  intro j
  rw [sweptTo_get, sweptTo_get]
  by_cases h1 : j < k
  · rw [if_pos (by omega), if_pos h1]
  · rw [if_neg h1]
    by_cases h2 : j = k
    · subst h2; rw [if_pos (by omega), h]
    · rw [if_neg (by omega)]
theorem sweptTo_drop {L : List (Option Ent)} {k : Nat} {x : Ent} (h : atL L k = some x) (hx : x.ma = 0) : sweptTo L (k + 1) = (sweptTo L k).set k none := by
  have hl := atL_lt h
  apply List.ext_getElem?
  intro j
  rw [List.getElem?_set, sweptTo_len, sweptTo_get, sweptTo_get]
  by_cases h2 : k = j
  · subst h2
    rw [if_pos (by omega), if_pos rfl, if_pos hl, atL_some.1 h]
    simp [sweepO, hx]
  · rw [if_neg h2]
    by_cases h1 : j < k
    · rw [if_pos (by omega), if_pos h1]
    · rw [if_neg (by omega), if_neg h1]
theorem live_drop {L : List (Option Ent)} {i : Nat} {x : Ent} (hx : atL L i = some x) : liveL (L.set i none) + 1 = liveL L := by
  have h := countP_set Option.isSome L i (some x) none (atL_some.1 hx)
  unfold liveL
  simpa using h
theorem count_drop {L : List (Option Ent)} {i : Nat} {x : Ent} (hx : atL L i = some x) (h0 : x.ma = 0) (s : Nat) : countL (L.set i none) s = countL L s := by
  have h := countP_set (mine s) L i (some x) none (atL_some.1 hx)
  unfold countL
  simpa [mine, h0] using h
def dropA (S : ArS) (i : Nat) : ArS := { S with L := S.L.set i none }
theorem dropA_ok {S : ArS} {i : Nat} {x : Ent} (h : ArOk S) (hx : atL S.L i = some x) (h0 : x.ma = 0) : ArOk (dropA S i) := by
  have hi := atL_lt hx
  have ha : ∀ j, atL (S.L.set i none) j = if i = j then none else atL S.L j := fun j => atL_set hi
  have key : ∀ j y, atL (S.L.set i none) j = some y → atL S.L j = some y := fun j y hy => by
    rw [ha] at hy
    split at hy
    · cases hy
    · exact hy
  refine ⟨h.room, by simp only [dropA, List.length_set]; exact h.two, ?_, ?_, by simp only [dropA, List.length_set]; exact h.long, ?_, fun a c y z hy hz hk => h.uniq a c y z (key a y hy) (key c z hz) hk, fun a y hy => h.mask a y (key a y hy), h.quota, h.quotaR, h.added, fun t l hl => ?_⟩
  · simp only [dropA, ha]; split
    · rfl
    · exact h.nil0
  · simp only [dropA, ha]; split
    · rfl
    · exact h.nil1
  · have := live_drop hx
    have := h.live
    simp only [dropA]
    omega
  · simp only [dropA, count_drop hx h0]; exact h.few t l hl
/-- A thing taken away: what has been stored for it. -/
theorem ArAt.dropped {b : Nat} {S : ArS} {arr : Array Value} {v1 v3 v3' : Value} {bm n i : Nat} {fr ys : List Nat} {g : AKey → Option Nat} {vs : List Value} {w w' : World} {F : Nat → Prop} {lv : Nat} {x : Ent}
    (h : ArAt b S arr v1 v3 bm n fr g vs w F lv (fun _ => False)) (hx : atL S.L i = some x) (h0 : x.ma = 0)
    (hlist : Row w' 95 8 v1 S.L.length (encL (S.L.set i none))) (hmap : MapOf keyA GoodA w' bm n (delM (fun k => (g k).map idV) x.key))
    (hp : ys.Perm (fr ++ [i])) (hh : HeapN ys.length ys) (hN : NumsAt b 3 (arr.setIfInBounds 3 v3') 64 ys v3' w')
    (hv : ∀ q, v3'.ownBlock = some q → v3.ownBlock = some q ∨ w.heap.size ≤ q) (hk : Keeps (fun k => k = b ∨ k = bm ∨ v1.ownBlock = some k ∨ v3.ownBlock = some k) w w') :
    ArAt b (dropA S i) (arr.setIfInBounds 3 v3') v1 v3' bm n ys (fun k => if k = x.key then none else g k) vs w' (fun k => F k ∨ v3'.ownBlock = some k) lv (fun _ => False) := by
  have hs := h.size
  have hi := atL_lt hx
  have ha : ∀ j, atL (S.L.set i none) j = if i = j then none else atL S.L j := fun j => atL_set hi
  have blk : ∀ q, q < w.heap.size → q ≠ b → q ≠ bm → v1.ownBlock ≠ some q → v3.ownBlock ≠ some q → w'.heap[q]? = w.heap[q]? := fun q hq h1 h2 h3 h4 => hk.block q hq (fun e => by rcases e with e | e | e | e; exact h1 e; exact h2 e; exact h3 e; exact h4 e)
  have h2 : 2 ≤ i := by
    rcases (show i = 0 ∨ i = 1 ∨ 2 ≤ i by omega) with rfl | rfl | h2
    · rw [h.ok.nil0] at hx; cases hx
    · rw [h.ok.nil1] at hx; cases hx
    · exact h2
  have hnot : i ∉ fr := fun e => by
    have := ((h.frees i).1 e).2.2.1
    rw [hx] at this; cases this
  have ef : (fun k' => (if k' = x.key then none else g k').map idV) = delM (fun k => (g k).map idV) x.key := by
    funext k'
    unfold delM
    by_cases e : k' = x.key
    · rw [if_pos e, if_pos e]; rfl
    · rw [if_neg e, if_neg e]
  exact { h with
    ok := dropA_ok h.ok hx h0
    good := fun j y hy => by
      simp only [dropA, ha] at hy
      split at hy
      · cases hy
      · exact h.good j y hy
    own := hN.own
    size := by rw [Array.size_setIfInBounds, hs]
    c0 := by rw [set_at (by omega)]; exact h.c0
    c1 := by rw [set_at (by omega)]; exact h.c1
    c2 := by rw [set_at (by omega)]; exact h.c2
    c3 := set_same (by rw [hs]; omega)
    c4 := fun s hs' => by
      simp only [dropA, count_drop hx h0]
      rw [set_at (by omega)]; exact h.c4 s hs'
    c5 := fun s hs' => by rw [set_at (by omega)]; exact h.c5 s hs'
    c6 := fun s hs' => by rw [set_at (by omega)]; exact h.c6 s hs'
    c7 := by rw [set_at (by omega)]; exact h.c7
    list := by simp only [dropA, List.length_set]; exact hlist
    map := by rw [ef]; exact hmap
    keys := fun k j => by
      simp only [dropA, ha]
      by_cases e : k = x.key
      · rw [if_pos e]
        constructor
        · intro e1; cases e1
        · rintro ⟨y, h1, h2⟩
          by_cases e2 : i = j
          · rw [if_pos e2] at h1; cases h1
          · rw [if_neg e2] at h1
            exact absurd (h.ok.uniq i j x y hx h1 (by rw [h2, e])) e2
      · rw [if_neg e, h.keys k j]
        by_cases e2 : i = j
        · rw [if_pos e2]
          constructor
          · rintro ⟨y, h1, h2⟩
            rw [← e2, hx] at h1
            cases h1
            exact absurd h2.symm e
          · rintro ⟨y, h1, _⟩; cases h1
        · rw [if_neg e2]
    free := hN.row
    heap := hh
    nodup := by
      rw [hp.nodup_iff, List.nodup_append]
      refine ⟨h.nodup, by simp, fun a ha' c hc => ?_⟩
      rw [List.mem_singleton] at hc
      rintro rfl
      exact hnot (by rw [← hc]; exact ha')
    frees := fun j => by
      simp only [dropA, ha, List.length_set]
      rw [hp.mem_iff, List.mem_append, List.mem_singleton, h.frees j]
      by_cases e : i = j
      · subst e
        rw [if_pos rfl]
        simp [h2, hi]
      · rw [if_neg e]
        constructor
        · rintro (h1 | h1)
          · exact h1
          · exact absurd h1.symm e
        · exact fun h1 => .inl h1
    rows := fun s u hu => (h.rows s u hu).keep fun q hq => blk q ((h.rows s u hu).lt q hq) (fun e => h.nv hu (by rw [← e]; exact hq)) (fun e => map_apart h.map (h.rows s u hu) (by rw [← e]; exact hq)) (rows_apart (h.rows s u hu) h.list (by decide) hq) (h.apart3 s u q hu hq)
    fb := .inl h.fb
    fm := .inl h.fm
    f1 := fun q hq => .inl (h.f1 q hq)
    f3 := fun q hq => .inr hq
    fv := fun s u q hu hq => .inl (h.fv s u q hu hq)
    lt := fun q hq => by
      rcases hq with hq | hq
      · exact Nat.lt_of_lt_of_le (h.lt q hq) hk.size
      · exact hN.row.lt q hq
    apart3 := fun s u q hu hq e => by
      rcases hv q e with h1 | h1
      · exact h.apart3 s u q hu hq h1
      · have := (h.rows s u hu).lt q hq; omega }
/-- How much lives, stored behind the sweep. -/
theorem ArAt.counted {b : Nat} {S : ArS} {arr : Array Value} {v1 v3 : Value} {bm n : Nat} {fr : List Nat} {g : AKey → Option Nat} {vs : List Value} {w : World} {F : Nat → Prop} {lv lv' : Nat}
    (h : ArAt b S arr v1 v3 bm n fr g vs w F lv (fun _ => False)) :
    ArAt b S (arr.setIfInBounds 196 (.int .i64 lv')) v1 v3 bm n fr g vs (w.setCell ⟨b, 196, none⟩ (.int .i64 lv')) F lv' (fun _ => False) := by
  have hs := h.size
  have blk : ∀ k, k ≠ b → (w.setCell ⟨b, 196, none⟩ (.int .i64 lv')).heap[k]? = w.heap[k]? := fun k hk => Below.heap_setCell _ _ _ _ hk
  exact { h with
    own := Joins.block_setCell h.own _
    size := by rw [Array.size_setIfInBounds, hs]
    c0 := by rw [set_at (by omega)]; exact h.c0
    c1 := by rw [set_at (by omega)]; exact h.c1
    c2 := by rw [set_at (by omega)]; exact h.c2
    c3 := by rw [set_at (by omega)]; exact h.c3
    c4 := fun s hs' => by rw [set_at (by omega)]; exact h.c4 s hs'
    c5 := fun s hs' => by rw [set_at (by omega)]; exact h.c5 s hs'
    c6 := fun s hs' => by rw [set_at (by omega)]; exact h.c6 s hs'
    c7 := set_same (by rw [hs]; omega)
    list := h.list.keep fun q hq => blk q (fun e => h.n1 (by rw [← e]; exact hq))
    map := h.map.keep (blk bm h.nm)
    free := h.free.keep fun q hq => blk q (fun e => h.n3 (by rw [← e]; exact hq))
    rows := fun s u hu => (h.rows s u hu).keep fun q hq => blk q (fun e => h.nv hu (by rw [← e]; exact hq))
    lt := fun i hi => by simpa [World.setCell] using h.lt i hi }
end Go.Proofs.Ytabhpbkkjijfjaa
