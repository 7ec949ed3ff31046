/-
  Turns, as plain lists: what waits by tenant, and all that waits in one list; that the two answer alike. No program in sight.
-/
namespace Go.Proofs.YtabhpbkkjijfjaaGreatDoor
set_option maxRecDepth 100000

/-- What waits, by tenant; who is next. -/
structure TurnSt where
  wait : List (List ByteArray)
  next : Nat
def TurnSt.n (s : TurnSt) : Nat := s.wait.length
def TurnSt.at (s : TurnSt) (t : Nat) : List ByteArray := s.wait.getD t []
def turnPush (s : TurnSt) (t : Int) (x : ByteArray) : Int × TurnSt :=
  if t < 0 ∨ (s.n : Int) ≤ t then (3, s)
  else if 8 ≤ (s.at t.toNat).length then (5, s)
  else (0, { s with wait := s.wait.set t.toNat (s.at t.toNat ++ [x]) })
def turnWaits (s : TurnSt) (t : Int) : Int := if t < 0 ∨ (s.n : Int) ≤ t then 0 else (s.at t.toNat).length
/-- From round k on, r rounds more: the first tenant of which something waits. -/
def turnSeek (s : TurnSt) : Nat → Nat → Option Nat
  | _, 0 => none
  | k, r + 1 => if (s.at ((s.next + k) % s.n)).length = 0 then turnSeek s (k + 1) r else some ((s.next + k) % s.n)
def turnPop (s : TurnSt) : (Int × ByteArray × Bool) × TurnSt :=
  match turnSeek s 0 s.n with
  | none => ((0, ⟨#[]⟩, false), s)
  | some i => (((i : Int), (s.at i).headD ⟨#[]⟩, true), { wait := s.wait.set i (s.at i).tail, next := (i + 1) % s.n })

/-- All that waits, in one list. -/
structure QueueSt where
  n : Nat
  next : Nat
  wait : List (Nat × ByteArray)
def queueWaits (q : QueueSt) (t : Int) : Int := (q.wait.filter fun l => (l.1 : Int) == t).length
def queuePush (q : QueueSt) (t : Int) (x : ByteArray) : Int × QueueSt :=
  if t < 0 ∨ (q.n : Int) ≤ t then (3, q)
  else if 8 ≤ queueWaits q t then (5, q)
  else (0, { q with wait := q.wait ++ [(t.toNat, x)] })
def qDist (q : QueueSt) (t : Nat) : Nat := (t + q.n - q.next) % q.n
/-- The scan: the best place so far, its distance. -/
def queueScan (q : QueueSt) : List (Nat × ByteArray) → Nat → Int → Nat → Int × Nat
  | [], _, best, dist => (best, dist)
  | l :: r, i, best, dist => if qDist q l.1 < dist then queueScan q r (i + 1) i (qDist q l.1) else queueScan q r (i + 1) best dist
def queuePop (q : QueueSt) : (Int × ByteArray × Bool) × QueueSt :=
  let b := (queueScan q q.wait 0 (-1) q.n).1
  if b < 0 then ((0, ⟨#[]⟩, false), q)
  else
    let l := q.wait.getD b.toNat (0, ⟨#[]⟩)
    (((l.1 : Int), l.2, true), { q with wait := q.wait.take b.toNat ++ q.wait.drop (b.toNat + 1), next := (l.1 + 1) % q.n })

def qOf (l : List (Nat × ByteArray)) (t : Nat) : List ByteArray := (l.filter fun x => x.1 == t).map (·.2)
/-- The two say the same. -/
structure TurnSim (s : TurnSt) (q : QueueSt) : Prop where
  n : q.n = s.n
  pos : 0 < s.n
  next : q.next = s.next
  lt : s.next < s.n
  own : ∀ t, t < s.n → s.at t = qOf q.wait t
  all : ∀ l ∈ q.wait, l.1 < s.n

theorem turnAt_set (s : TurnSt) (i t : Nat) (y : List ByteArray) (m : Nat) (hi : i < s.n) : ({ wait := s.wait.set i y, next := m } : TurnSt).at t = if t = i then y else s.at t := by
  simp only [TurnSt.at, List.getD_eq_getElem?_getD, List.getElem?_set]
  simp only [TurnSt.n] at hi
  split
  · next h => subst h; simp
  · next h =>
    split
    · next h' => exact absurd h'.symm h
    · rfl
theorem qOf_append (l : List (Nat × ByteArray)) (t i : Nat) (x : ByteArray) : qOf (l ++ [(i, x)]) t = if t = i then qOf l t ++ [x] else qOf l t := by
  simp only [qOf, List.filter_append, List.map_append]
  split
  · next h => subst h; simp
  · next h =>
    have : ((i == t) = false) := by simp; omega
    simp [this]
theorem queueWaits_at {s : TurnSt} {q : QueueSt} (h : TurnSim s q) (t : Int) : queueWaits q t = turnWaits s t := by
  unfold queueWaits turnWaits
  split
  · next ht =>
    have : q.wait.filter (fun l => (l.1 : Int) == t) = [] := by
      rw [List.filter_eq_nil_iff]
      intro l hl
      have := h.all l hl
      simp only [beq_iff_eq]
      omega
    simp [this]
  · next ht =>
    rw [h.own t.toNat (by omega), qOf, List.length_map]
    congr 2
    apply List.filter_congr
    intro l _
    rw [Bool.eq_iff_iff]
    simp only [beq_iff_eq]
    omega
theorem sim_push {s : TurnSt} {q : QueueSt} (h : TurnSim s q) (t : Int) (x : ByteArray) : (turnPush s t x).1 = (queuePush q t x).1 ∧ TurnSim (turnPush s t x).2 (queuePush q t x).2 := by
  unfold turnPush queuePush
  rw [h.n]
  by_cases h1 : t < 0 ∨ (s.n : Int) ≤ t
  · rw [if_pos h1, if_pos h1]; exact ⟨rfl, h⟩
  · rw [if_neg h1, if_neg h1]
    have hw := queueWaits_at h t
    rw [turnWaits, if_neg h1] at hw
    rw [hw]
    by_cases h2 : 8 ≤ (s.at t.toNat).length
    · rw [if_pos h2, if_pos (by omega)]; exact ⟨rfl, h⟩
    · rw [if_neg h2, if_neg (by omega)]
      have ht : t.toNat < s.n := by omega
      have e : ({ wait := s.wait.set t.toNat (s.at t.toNat ++ [x]), next := s.next } : TurnSt).n = s.n := by simp [TurnSt.n]
      refine ⟨rfl, ⟨e.symm, by rw [e]; exact h.pos, h.next, by rw [e]; exact h.lt, fun t' ht' => ?_, fun l hl => ?_⟩⟩
      · rw [e] at ht'
        show ({ wait := s.wait.set t.toNat (s.at t.toNat ++ [x]), next := s.next } : TurnSt).at t' = qOf (q.wait ++ [(t.toNat, x)]) t'
        rw [turnAt_set s t.toNat t' _ _ ht, qOf_append, ← h.own t' ht']
        split
        · next h => subst h; rfl
        · rfl
      · rw [e]
        rcases List.mem_append.1 hl with hl | hl
        · exact h.all l hl
        · simp at hl; subst hl; exact ht

/-- What the scan finds: the first of those that are nearest. -/
theorem scan_spec (q : QueueSt) : ∀ (r : List (Nat × ByteArray)) (i : Nat) (best : Int) (dist : Nat),
    ((queueScan q r i best dist) = (best, dist) ∧ ∀ l ∈ r, dist ≤ qDist q l.1) ∨
    ∃ (k : Nat) (l : Nat × ByteArray), r[k]? = some l ∧ queueScan q r i best dist = (((i + k : Nat) : Int), qDist q l.1) ∧ qDist q l.1 < dist ∧ (∀ l' ∈ r, qDist q l.1 ≤ qDist q l'.1) ∧ ∀ l' ∈ r.take k, qDist q l.1 < qDist q l'.1
  | [], i, best, dist => .inl ⟨rfl, fun l hl => by cases hl⟩
  | x :: r, i, best, dist => by
    by_cases hx : qDist q x.1 < dist
    · rw [queueScan, if_pos hx]
      rcases scan_spec q r (i + 1) i (qDist q x.1) with ⟨h1, h2⟩ | ⟨k, l, h1, h2, h3, h4, h5⟩
      · refine .inr ⟨0, x, rfl, by rw [h1]; simp, hx, fun l' hl' => ?_, fun l' hl' => by simp at hl'⟩
        rcases List.mem_cons.1 hl' with rfl | hl'
        · exact Nat.le_refl _
        · exact h2 l' hl'
      · refine .inr ⟨k + 1, l, by simpa using h1, by rw [h2]; congr 2; omega, by omega, fun l' hl' => ?_, fun l' hl' => ?_⟩
        · rcases List.mem_cons.1 hl' with rfl | hl'
          · omega
          · exact h4 l' hl'
        · rw [List.take_succ_cons] at hl'
          rcases List.mem_cons.1 hl' with rfl | hl'
          · exact h3
          · exact h5 l' hl'
    · rw [queueScan, if_neg hx]
      rcases scan_spec q r (i + 1) best dist with ⟨h1, h2⟩ | ⟨k, l, h1, h2, h3, h4, h5⟩
      · refine .inl ⟨h1, fun l hl => ?_⟩
        rcases List.mem_cons.1 hl with rfl | hl
        · omega
        · exact h2 l hl
      · refine .inr ⟨k + 1, l, by simpa using h1, by rw [h2]; congr 2; omega, h3, fun l' hl' => ?_, fun l' hl' => ?_⟩
        · rcases List.mem_cons.1 hl' with rfl | hl'
          · omega
          · exact h4 l' hl'
        · rw [List.take_succ_cons] at hl'
          rcases List.mem_cons.1 hl' with rfl | hl'
          · omega
          · exact h5 l' hl'
theorem seek_spec (s : TurnSt) : ∀ (r k : Nat), (turnSeek s k r = none ∧ ∀ j, k ≤ j → j < k + r → s.at ((s.next + j) % s.n) = []) ∨
    ∃ j, k ≤ j ∧ j < k + r ∧ turnSeek s k r = some ((s.next + j) % s.n) ∧ s.at ((s.next + j) % s.n) ≠ [] ∧ ∀ i, k ≤ i → i < j → s.at ((s.next + i) % s.n) = []
  | 0, k => .inl ⟨rfl, fun j h1 h2 => by omega⟩
  | r + 1, k => by
    by_cases h0 : (s.at ((s.next + k) % s.n)).length = 0
    · rw [turnSeek, if_pos h0]
      have h0' : s.at ((s.next + k) % s.n) = [] := List.eq_nil_of_length_eq_zero h0
      rcases seek_spec s r (k + 1) with ⟨h1, h2⟩ | ⟨j, h1, h2, h3, h4, h5⟩
      · refine .inl ⟨h1, fun j h3 h4 => ?_⟩
        rcases Nat.eq_or_lt_of_le h3 with rfl | h3
        · exact h0'
        · exact h2 j h3 (by omega)
      · refine .inr ⟨j, by omega, by omega, h3, h4, fun i h6 h7 => ?_⟩
        rcases Nat.eq_or_lt_of_le h6 with rfl | h6
        · exact h0'
        · exact h5 i h6 h7
    · rw [turnSeek, if_neg h0]
      exact .inr ⟨k, Nat.le_refl _, by omega, rfl, fun h => h0 (by rw [h]; rfl), fun i h1 h2 => by omega⟩
theorem mod_add_sub {n a t : Nat} (ha : a < n) (ht : t < n) : (a + (t + n - a) % n) % n = t := by
  rw [Nat.add_mod, Nat.mod_mod, ← Nat.add_mod, show a + (t + n - a) = t + n by omega, Nat.add_mod_right, Nat.mod_eq_of_lt ht]
theorem sub_mod_add {n a j : Nat} (ha : a < n) (hj : j < n) : ((a + j) % n + n - a) % n = j := by
  rcases Nat.lt_or_ge (a + j) n with h | h
  · rw [Nat.mod_eq_of_lt h, show a + j + n - a = j + n by omega, Nat.add_mod_right, Nat.mod_eq_of_lt hj]
  · rw [show a + j = (a + j - n) + n by omega, Nat.add_mod_right, Nat.mod_eq_of_lt (show a + j - n < n by omega), show a + j - n + n - a = j by omega, Nat.mod_eq_of_lt hj]
theorem qOf_nil {l : List (Nat × ByteArray)} {t : Nat} : qOf l t = [] ↔ ∀ x ∈ l, x.1 ≠ t := by
  simp only [qOf, List.map_eq_nil_iff, List.filter_eq_nil_iff, beq_iff_eq]
theorem qOf_remove {l : List (Nat × ByteArray)} {k : Nat} {x : Nat × ByteArray} (hk : l[k]? = some x) (hfirst : ∀ y ∈ l.take k, y.1 ≠ x.1) (t : Nat) :
    qOf (l.take k ++ l.drop (k + 1)) t = (if t = x.1 then (qOf l t).tail else qOf l t) ∧ (qOf l x.1).head? = some x.2 := by
  have hkl := (List.getElem?_eq_some_iff.1 hk).1
  have e : l = l.take k ++ x :: l.drop (k + 1) := by
    have h := List.drop_eq_getElem_cons hkl
    have hx : l[k] = x := (List.getElem?_eq_some_iff.1 hk).2
    rw [hx] at h
    rw [← h, List.take_append_drop]
  have h0 : qOf (l.take k) x.1 = [] := qOf_nil.2 hfirst
  have app : ∀ a b t, qOf (a ++ b) t = qOf a t ++ qOf b t := fun a b t => by simp [qOf]
  have cons : ∀ b t, qOf (x :: b) t = if t = x.1 then x.2 :: qOf b t else qOf b t := fun b t => by
    simp only [qOf, List.filter_cons]
    split
    · next h => rw [beq_iff_eq] at h; rw [if_pos h.symm]; rfl
    · next h => rw [if_neg (fun h' => h (by simp [h']))]
  constructor
  · rw [app]
    split
    · next h =>
      subst h
      rw [h0]
      conv => rhs; rw [e, app, cons, if_pos rfl, h0]
      rfl
    · next h =>
      conv => rhs; rw [e, app, cons, if_neg h]
  · rw [e, app, cons, if_pos rfl, h0]
    rfl
theorem sim_pop {s : TurnSt} {q : QueueSt} (h : TurnSim s q) : (turnPop s).1 = (queuePop q).1 ∧ TurnSim (turnPop s).2 (queuePop q).2 := by
  have dist : ∀ t, qDist q t = (t + s.n - s.next) % s.n := fun t => by rw [qDist, h.n, h.next]
  have dlt : ∀ t, qDist q t < s.n := fun t => by rw [dist]; exact Nat.mod_lt _ h.pos
  unfold turnPop queuePop
  rcases seek_spec s s.n 0 with ⟨h1, h2⟩ | ⟨j, h1, h2, h3, h4, h5⟩
  · have hn : q.wait = [] := by
      rw [List.eq_nil_iff_forall_not_mem]
      intro l hl
      have hlt := h.all l hl
      have := h2 ((l.1 + s.n - s.next) % s.n) (Nat.zero_le _) (by rw [Nat.zero_add]; exact Nat.mod_lt _ h.pos)
      rw [mod_add_sub h.lt hlt, h.own _ hlt, qOf_nil] at this
      exact this l hl rfl
    rw [h1, hn]
    exact ⟨rfl, h⟩
  · rw [h3]
    rw [Nat.zero_add] at h2
    have hjm : (s.next + j) % s.n < s.n := Nat.mod_lt _ h.pos
    obtain ⟨t, ht⟩ : ∃ t, t = (s.next + j) % s.n := ⟨_, rfl⟩
    rw [← ht] at h4 hjm ⊢
    have hd : qDist q t = j := by rw [dist, ht, sub_mod_add h.lt h2]
    have hne : ∃ x ∈ q.wait, x.1 = t := by
      rw [h.own t hjm] at h4
      rcases Classical.em (∃ x ∈ q.wait, x.1 = t) with h' | h'
      · exact h'
      · exact absurd (qOf_nil.2 fun x hx e => h' ⟨x, hx, e⟩) h4
    obtain ⟨x, hx, hxt⟩ := hne
    have near : ∀ l ∈ q.wait, j ≤ qDist q l.1 := by
      intro l hl
      rcases Nat.lt_or_ge (qDist q l.1) j with hlt | hge
      · have := h5 _ (Nat.zero_le _) hlt
        rw [dist, mod_add_sub h.lt (h.all l hl), h.own _ (h.all l hl), qOf_nil] at this
        exact absurd rfl (this l hl)
      · exact hge
    have same : ∀ l ∈ q.wait, qDist q l.1 = j → l.1 = t := by
      intro l hl e
      rw [dist] at e
      have := mod_add_sub h.lt (h.all l hl)
      rw [e, ← ht] at this
      exact this.symm
    rcases scan_spec q q.wait 0 (-1) q.n with ⟨_, hno⟩ | ⟨k, l, hk, hs, hl, hmin, hfst⟩
    · have := hno x hx
      rw [hxt, hd, h.n] at this
      omega
    · have hlm : l ∈ q.wait := List.mem_of_getElem? hk
      have hlj : qDist q l.1 = j := Nat.le_antisymm (by have := hmin x hx; rwa [hxt, hd] at this) (near l hlm)
      have hlt : l.1 = t := same l hlm hlj
      have hfirst : ∀ y ∈ q.wait.take k, y.1 ≠ l.1 := by
        intro y hy e
        have := hfst y hy
        rw [e] at this
        omega
      have hrem := qOf_remove hk hfirst
      have hg : q.wait.getD k (0, ⟨#[]⟩) = l := by rw [List.getD_eq_getElem?_getD, hk]; rfl
      rw [hs]
      simp only [Nat.zero_add]
      rw [if_neg (by omega), Int.toNat_natCast, hg]
      have hhead : (s.at t).headD ⟨#[]⟩ = l.2 := by
        rw [h.own t hjm, ← hlt]
        have := (hrem t).2
        cases hq : qOf q.wait l.1 with
        | nil => rw [hq] at this; cases this
        | cons a b => rw [hq] at this; simp at this; simp [this]
      refine ⟨by rw [hhead, hlt], ⟨?_, ?_, ?_, ?_, fun t' ht' => ?_, fun l' hl' => ?_⟩⟩
      · show q.n = (s.wait.set t _).length
        rw [List.length_set]; exact h.n
      · show 0 < (s.wait.set t _).length
        rw [List.length_set]; exact h.pos
      · show (l.1 + 1) % q.n = (t + 1) % s.n
        rw [hlt, h.n]
      · show (t + 1) % s.n < (s.wait.set t _).length
        rw [List.length_set]; exact Nat.mod_lt _ h.pos
      · have ht2 : t' < s.n := by
          have e : (s.wait.set t (s.at t).tail).length = s.n := List.length_set
          have : t' < (s.wait.set t (s.at t).tail).length := ht'
          omega
        show ({ wait := s.wait.set t (s.at t).tail, next := (t + 1) % s.n } : TurnSt).at t' = qOf (q.wait.take k ++ q.wait.drop (k + 1)) t'
        rw [turnAt_set s t t' _ _ hjm, (hrem t').1, hlt]
        split
        · next e => subst e; rw [h.own _ hjm]
        · rw [h.own _ ht2]
      · have e : (s.wait.set t (s.at t).tail).length = s.n := List.length_set
        show l'.1 < (s.wait.set t (s.at t).tail).length
        rw [e]
        rcases List.mem_append.1 hl' with hl' | hl'
        · exact h.all l' (List.mem_of_mem_take hl')
        · exact h.all l' (List.mem_of_mem_drop hl')
theorem sim_new (n : Nat) (h : 0 < n) : TurnSim ⟨List.replicate n [], 0⟩ ⟨n, 0, []⟩ :=
  ⟨by simp [TurnSt.n], by simpa [TurnSt.n] using h, rfl, by simpa [TurnSt.n] using h, fun t _ => by
    simp only [TurnSt.at, List.getD_eq_getElem?_getD, List.getElem?_replicate, qOf, List.filter_nil, List.map_nil]
    split <;> rfl, fun l hl => by cases hl⟩
end Go.Proofs.YtabhpbkkjijfjaaGreatDoor
