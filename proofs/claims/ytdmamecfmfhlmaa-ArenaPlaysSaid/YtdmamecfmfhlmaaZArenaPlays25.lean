/-
  The document's plain arena (ref.Store) in memory; at; ref.Store's owned; Four cells stored; a world by a name of its own.
-/
import Derived.Test.YtdmamecfmfhlmaaZArenaPlaysArSquares
import Derived.Test.YtdmamecfmfhlmaaZArenaPlays7
namespace Go.Proofs.Ytdmamecfmfhlmaa
set_option maxRecDepth 100000
open Go.RowKit

/-- Things by their numbers, in order; what each tenant may have; what it was given since its mark. -/
structure RSt where
  room : Nat
  T : List (Nat × Ent)
  quota : List Int
  since : List (List Nat)
def RSt.sn (S : RSt) (t : Nat) : List Nat := S.since.getD t []
def encTh (p : Nat × Ent) : List Value := [.int .i64 p.1, .int .i64 p.2.k, .int .i64 p.2.lv, .int .i64 p.2.va, .int .i64 p.2.a, .int .i64 p.2.b, .int .i64 p.2.c, .int .i64 p.2.d, .int .u64 p.2.ma]
def encTs (T : List (Nat × Ent)) : List Value := T.flatMap encTh
theorem encTs_len (T : List (Nat × Ent)) : (encTs T).length = T.length * 9 := by
  unfold encTs
  induction T with
  | nil => rfl
  | cons o T ih => rw [List.flatMap_cons, List.length_append, ih, List.length_cons]; show 9 + _ = _; omega
theorem encTs_at {T : List (Nat × Ent)} : ∀ {i : Nat} {p : Nat × Ent}, T[i]? = some p → ∀ j, j < 9 → (encTs T)[i * 9 + j]? = (encTh p)[j]? := by
  induction T with
  | nil => intro i p h; simp at h
  | cons z T ih =>
    intro i p h j hj
    unfold encTs at ih ⊢
    have h9 : (encTh z).length = 9 := rfl
    rw [List.flatMap_cons, List.getElem?_append, h9]
    cases i with
    | zero =>
      obtain rfl : z = p := by simpa using h
      rw [if_pos (by omega)]; congr 1; omega
    | succ i =>
      rw [if_neg (by omega), ← ih (by simpa using h) j hj]; congr 1; omega
structure ReAt (b : Nat) (S : RSt) (arr : Array Value) (v1 : Value) (vs : List Value) (w : World) (F : Nat → Prop) : Prop where
  own : w.heap[b]? = some (.cells arr 69 (0, 0))
  size : arr.size = 130
  c0 : arr[0]? = some (.int .i64 S.room)
  c1 : arr[1]? = some v1
  c2 : ∀ t, t < 64 → arr[2 + t]? = some (.int .i64 (S.quota.getD t 0))
  c3 : ∀ t, t < 64 → arr[66 + t]? = vs[t]?
  few : S.T.length ≤ 200000
  list : Row w 118 9 v1 S.T.length (encTs S.T)
  len : vs.length = 64
  rows : ∀ (t : Nat) (v : Value), vs[t]? = some v → Row w 3 1 v (S.sn t).length ((S.sn t).map idV)
  fb : F b
  f1 : ∀ (q : Nat), v1.ownBlock = some q → F q
  fv : ∀ (t : Nat) (v : Value) (q : Nat), vs[t]? = some v → v.ownBlock = some q → F q
  lt : ∀ i, F i → i < w.heap.size
  apart : ∀ (t s : Nat) (v u : Value) (q : Nat), t ≠ s → vs[t]? = some v → vs[s]? = some u → v.ownBlock = some q → u.ownBlock ≠ some q
  qlen : S.quota.length = 64
  slen : S.since.length = 64
def IsRe (b : Nat) (S : RSt) (w : World) (F : Nat → Prop) : Prop := ∃ arr v1 vs, ReAt b S arr v1 vs w F
section
variable {b : Nat} {S : RSt} {arr : Array Value} {v1 : Value} {vs : List Value} {w w' : World} {F G : Nat → Prop}
theorem ReAt.keep (h : ReAt b S arr v1 vs w F) (k : Keeps G w w') (hd : ∀ i, F i → ¬ G i) : ReAt b S arr v1 vs w' F := by
  have blk : ∀ i, F i → w'.heap[i]? = w.heap[i]? := fun i hi => k.block i (h.lt i hi) (hd i hi)
  exact { h with
    own := (blk b h.fb).trans h.own
    list := h.list.keep fun q hq => blk q (h.f1 q hq)
    rows := fun t v hv => (h.rows t v hv).keep fun q hq => blk q (h.fv t v q hv hq)
    lt := fun i hi => Nat.lt_of_lt_of_le (h.lt i hi) k.size }
theorem ReAt.below (h : ReAt b S arr v1 vs w F) (hb : Below w.heap.size w w') : ReAt b S arr v1 vs w' F := h.keep (Keeps.of_below (F := fun _ => False) hb) (fun _ _ h => h)
theorem ReAt.cell (h : ReAt b S arr v1 vs w F) (j : Nat) : w.cell? ⟨b, j, none⟩ = arr[j]? := Joins.cell_of_block h.own j
/-- Where a thing lies, and its cells. -/
theorem ReAt.thing (h : ReAt b S arr v1 vs w F) {i : Nat} {p : Nat × Ent} (hp : S.T[i]? = some p) : ∃ q o c, v1 = .slice (some ⟨q, o, none⟩) S.T.length c ∧ F q ∧ q ≠ b ∧ (∀ j, j < 9 → w.cell? ⟨q, o + i * 9 + j, none⟩ = (encTh p)[j]?) ∧ ∀ j, w.frozen? ⟨q, j, none⟩ = false := by
  have hi := (List.getElem?_eq_some_iff.1 hp).1
  obtain ⟨a, c, hv, hc, hm, ha⟩ := h.list.form
  have hl := h.list
  have hF := h.f1
  have hne := h.list.ne_type h.own (by decide)
  rw [hv] at hl hF hne
  obtain ⟨q, o, rfl, hcell, hf, _⟩ := hl.cells (by omega)
  refine ⟨q, o, c, hv, hF q rfl, fun e => hne (by rw [e]; rfl), fun j hj => ?_, hf⟩
  rw [Nat.add_assoc, hcell (i * 9 + j) (by omega), encTs_at hp j hj]
end
/-- The number of the first thing that has an id. -/
def thN (T : List (Nat × Ent)) (id : Int) : Option Nat := T.findIdx? fun p => decide ((p.1 : Int) = id)
def thP (v1 : Value) (o : Option Nat) : Option Addr := match v1, o with
  | .slice (some ⟨q, f, none⟩) _ _, some j => some ⟨q, f + j * 9, none⟩
  | _, _ => none
theorem thP_none (v : Value) : thP v none = none := by unfold thP; split <;> simp_all
theorem thN_here {T : List (Nat × Ent)} {id : Int} {k : Nat} {p : Nat × Ent} (hb : ∀ j p, j < k → T[j]? = some p → ¬ (p.1 : Int) = id) (hp : T[k]? = some p) (he : (p.1 : Int) = id) : thN T id = some k := by
  unfold thN
  obtain ⟨hk, e⟩ := List.getElem?_eq_some_iff.1 hp
  rw [List.findIdx?_eq_some_iff_getElem]
  refine ⟨hk, by rw [e]; exact decide_eq_true he, fun j hj => ?_⟩
  have := hb j _ hj (List.getElem?_eq_getElem (by omega))
  simpa using this
theorem thN_none {T : List (Nat × Ent)} {id : Int} (hb : ∀ j p, j < T.length → T[j]? = some p → ¬ (p.1 : Int) = id) : thN T id = none := by
  unfold thN
  rw [List.findIdx?_eq_none_iff]
  intro p hp
  obtain ⟨j, hj⟩ := List.mem_iff_getElem?.1 hp
  exact decide_eq_false (hb j p (List.getElem?_eq_some_iff.1 hj).1 hj)
set_option maxHeartbeats 2000000 in
theorem at_any (b : Nat) (S : RSt) (arr : Array Value) (v1 : Value) (vs : List Value) (F : Nat → Prop) (id : Int) (w : World) (h : ReAt b S arr v1 vs w F) :
    Calls Try.prog 101 #[.pointer (some ⟨b, 0, none⟩), .int .i64 id] w fun e w' => e = .returned (.pointer (thP v1 (thN S.T id))) ∧ w' = w := by
  obtain ⟨a, c, hv, hc, hm, ha⟩ := h.list.form
  have d1 := (h.cell 1).trans h.c1
  have hfew := h.few
  obtain ⟨N, hN⟩ : ∃ N, N = S.T.length := ⟨_, rfl⟩
  rw [← hN] at hv hc hfew
  rw [hv] at d1
  have HH := Lib.hid h
  have HN := Lib.hid hN
  have HV := Lib.hid hv
  clear h hv hN ha hc hm
  go_enter Try.func101, Try.ntmps101
  go_wp2_with fail
  go_loopw [5, 11] (fun _ iv ws => ∃ k : Nat, iv = .int .i64 k ∧ k ≤ N ∧ Aside (∀ j p, j < k → S.T[j]? = some p → ¬ (p.1 : Int) = id) ∧ ws = w) (fun _ iv _ => N - (intOf iv).toNat)
  case atStart => exact ⟨0, rfl, Nat.zero_le _, fun j p hj => absurd hj (Nat.not_lt_zero j), rfl⟩
  case round =>
    obtain ⟨k, rfl, hkN, HB, rfl⟩ := hrel
    by_cases hk : k < N
    · obtain ⟨p, hp⟩ : ∃ p, S.T[k]? = some p := ⟨_, List.getElem?_eq_getElem (by rw [← HN.out]; exact hk)⟩
      obtain ⟨q, o, c', hv', hFq, hqb, hcl, hfz⟩ := HH.out.thing hp
      rw [HV.out] at hv'
      simp only [Value.slice.injEq] at hv'
      obtain ⟨rfl, hNN, rfl⟩ := hv'
      have e0 := hcl 0 (by omega)
      simp only [encTh, List.getElem?_cons_zero, Nat.add_zero] at e0
      have u1 : decide ((k : Int) < (N : Int)) = true := decide_eq_true (by omega)
      have u2 : decide (k < N) = true := decide_eq_true hk
      have hNx : ∀ j p', j < k + 1 → S.T[j]? = some p' → ((p.1 : Int) = id → False) → ¬ (p'.1 : Int) = id := fun j p' hj hp' hne e => by
        by_cases hjk : j = k
        · subst hjk
          rw [hp] at hp'
          cases hp'
          exact hne e
        · exact HB.out j p' (by omega) hp' e
      have HNX := Lib.hid hNx
      have HTH := Lib.hid (fun e => thN_here HB.out hp e)
      obtain ⟨i, hi⟩ : ∃ i, i = p.1 := ⟨_, rfl⟩
      rw [← hi] at e0 HNX HTH
      clear hp hcl hfz hNx hi hFq hqb hNN
      by_cases hid : (i : Int) = id
      · subst hid
        have HT2 := Lib.hid (HTH.out rfl)
        go_wp2_with fail
        go_ret
        refine ⟨?_, rfl⟩
        rw [HT2.out, HV.out]
        rfl
      · have u3 : ((i : Int) == id) = false := by simpa using hid
        have HNY := Lib.hid (fun j p' hj hp' => HNX.out j p' hj hp' hid)
        clear hid
        go_wp2_with fail
        exact ⟨⟨k + 1, by go_num, hk, HNY.out, trivial⟩, by simp [intOf]; omega⟩
    · have u1 : decide ((k : Int) < (N : Int)) = false := decide_eq_false (by omega)
      have u2 : decide (k < N) = false := decide_eq_false hk
      have hkN' : k = N := by omega
      subst hkN'
      have HT2 := Lib.hid (thN_none (T := S.T) (id := id) (by rw [← HN.out]; exact HB.out))
      go_wp2_with fail
      go_ret
      refine ⟨?_, rfl⟩
      rw [HT2.out, thP_none]
      rfl
end Go.Proofs.Ytdmamecfmfhlmaa
namespace Go.Proofs.Ytdmamecfmfhlmaa
set_option maxRecDepth 100000
open Go.RowKit

def thingV (p : Nat × Ent) : Value := .agg #[.int .i64 p.1, .int .i64 p.2.k, .int .i64 p.2.lv, .int .i64 p.2.va, .int .i64 p.2.a, .int .i64 p.2.b, .int .i64 p.2.c, .int .i64 p.2.d, .int .u64 p.2.ma]
def noTh : Nat × Ent := (0, zeroE)
/-- A tenant's own thing of a kind, as the document's owned tells it. -/
def ownR (T : List (Nat × Ent)) (t : Nat) (id kind : Int) : (Nat × Ent) × Bool :=
  if kind = 0 ∧ (id = 0 ∨ id = 1) then (noTh, true) else match (thN T id).bind (T[·]?) with
  | none => (noTh, false)
  | some p => if p.2.k = kind ∧ p.2.ma.testBit t = true then (p, true) else (noTh, false)
theorem rem_bit (m t : Nat) : ((m : Int) / 2 ^ t).tmod 2 = if m.testBit t then 1 else 0 := by
  have e : (m : Int) / 2 ^ t = ((m / 2 ^ t : Nat) : Int) := by
    rw [Int.natCast_ediv, Int.natCast_pow]; rfl
  obtain ⟨z, hz⟩ : ∃ z, z = m / 2 ^ t := ⟨_, rfl⟩
  rw [e, Nat.testBit_eq_decide_div_mod_eq, ← hz, show ((z : Nat) : Int).tmod 2 = ((z % 2 : Nat) : Int) from rfl]
  by_cases h : z % 2 = 1
  · rw [decide_eq_true h, h]; rfl
  · rw [decide_eq_false h, show z % 2 = 0 by omega]; rfl
set_option maxHeartbeats 4000000 in
theorem owned_any (b : Nat) (S : RSt) (arr : Array Value) (v1 : Value) (vs : List Value) (F : Nat → Prop) (t : Nat) (id kind : Int) (w : World) (h : ReAt b S arr v1 vs w F) (ht : t < 64) :
    Calls Try.prog 89 #[.pointer (some ⟨b, 0, none⟩), .int .i64 t, .int .i64 id, .int .i64 kind] w fun e w' => e = .returned (.tuple #[thingV (ownR S.T t id kind).1, .bool (ownR S.T t id kind).2]) ∧ Below w.heap.size w w' := by
  by_cases hb : kind = 0 ∧ (id = 0 ∨ id = 1)
  · have e : ownR S.T t id kind = (noTh, true) := by unfold ownR; rw [if_pos hb]
    rw [e]
    obtain ⟨rfl, hid⟩ := hb
    clear h e
    rcases hid with rfl | rfl
    all_goals
      go_enter Try.func89, Try.ntmps89
      go_wp2_with fail
      refine bodyPost_ret (v := .tuple #[thingV noTh, .bool true]) (by simp [results, Try.results89, go_sem, thingV, noTh, zeroE]) rfl ⟨rfl, (Below.refl _ _).alloc (Nat.le_refl _) _⟩
  · have hw1 : Below w.heap.size w (w.alloc (.cells #[.int .i64 0, .int .i64 0, .int .i64 0, .int .i64 0, .int .i64 0, .int .i64 0, .int .i64 0, .int .i64 0, .int .u64 0] 118)) := (Below.refl _ _).alloc (Nat.le_refl _) _
    have hA := h.below hw1
    have HAT := Lib.hid (at_any b S arr v1 vs F id _ hA)
    have HB := Lib.hid hw1
    have hbz : ((kind == 0) = false) ∨ (kind = 0 ∧ (id == 0) = false ∧ (id == 1) = false) := by
      by_cases hk : kind = 0
      · refine .inr ⟨hk, ?_, ?_⟩
        · simpa using fun e => hb ⟨hk, .inl e⟩
        · simpa using fun e => hb ⟨hk, .inr e⟩
      · exact .inl (by simpa using hk)
    have e : ownR S.T t id kind = match (thN S.T id).bind (S.T[·]?) with
      | none => (noTh, false)
      | some p => if p.2.k = kind ∧ p.2.ma.testBit t = true then (p, true) else (noTh, false) := by unfold ownR; rw [if_neg hb]
    cases hn : thN S.T id with
    | none =>
      rw [hn, Option.bind_none] at e
      simp only at e
      rw [e]
      rw [hn, thP_none] at HAT
      clear e hA hw1 hn hb h
      rcases hbz with h1 | ⟨rfl, h1, h2⟩
      all_goals
        go_enter Try.func89, Try.ntmps89
        go_wp2_with fail
        with_reducible refine HAT.out.mono ?_
        rintro e w2 ⟨rfl, rfl⟩
        go_wp2_with fail
        refine bodyPost_ret (v := .tuple #[thingV noTh, .bool false]) (by simp [results, Try.results89, go_sem, thingV, noTh, zeroE]) rfl ⟨rfl, HB.out⟩
    | some j =>
      obtain ⟨p, hp⟩ : ∃ p, S.T[j]? = some p := by
        unfold thN at hn
        rw [List.findIdx?_eq_some_iff_getElem] at hn
        exact ⟨_, List.getElem?_eq_getElem hn.1⟩
      rw [hn, Option.bind_some, hp] at e
      simp only at e
      rw [e]
      obtain ⟨q, o, c, hv, hFq, hqb, hcl, hfz⟩ := hA.thing hp
      rw [hn, hv] at HAT
      have c0 := hcl 0 (by omega)
      have c1 := hcl 1 (by omega)
      have c2 := hcl 2 (by omega)
      have c3 := hcl 3 (by omega)
      have c4 := hcl 4 (by omega)
      have c5 := hcl 5 (by omega)
      have c6 := hcl 6 (by omega)
      have c7 := hcl 7 (by omega)
      have c8 := hcl 8 (by omega)
      simp only [encTh, List.getElem?_cons_zero, List.getElem?_cons_succ, Nat.add_zero] at c0 c1 c2 c3 c4 c5 c6 c7 c8
      have hrb := rem_bit p.2.ma t
      rw [show thP (.slice (some ⟨q, o, none⟩) S.T.length c) (some j) = some ⟨q, o + j * 9, none⟩ from rfl] at HAT
      obtain ⟨pi, px⟩ := p
      obtain ⟨xk, xa, xb, xc, xd, xl, xv, xm⟩ := px
      simp only at c0 c1 c2 c3 c4 c5 c6 c7 c8 hrb ⊢
      have ht0 : (0 : Int) ≤ t := by omega
      have htI : (t : Int) < 64 := by omega
      clear e hA hw1 hn hb h hcl hp hfz hv
      by_cases hk : xk = kind
      · subst hk
        have u1 : (xk != xk) = false := by simp
        cases hbit : xm.testBit t with
        | false =>
          rw [hbit] at hrb
          rw [if_neg (by simp)]
          clear hbit
          rcases hbz with h1 | ⟨rfl, h1, h2⟩
          all_goals
            go_enter Try.func89, Try.ntmps89
            go_wp2_with fail
            with_reducible refine HAT.out.mono ?_
            rintro e w2 ⟨rfl, rfl⟩
            go_wp2_with fail
            refine bodyPost_ret (v := .tuple #[thingV noTh, .bool false]) (by simp [results, Try.results89, go_sem, thingV, noTh, zeroE]) rfl ⟨rfl, HB.out⟩
        | true =>
          rw [hbit] at hrb
          rw [if_pos ⟨rfl, rfl⟩]
          clear hbit
          rcases hbz with h1 | ⟨rfl, h1, h2⟩
          all_goals
            go_enter Try.func89, Try.ntmps89
            go_wp2_with fail
            with_reducible refine HAT.out.mono ?_
            rintro e w2 ⟨rfl, rfl⟩
            go_wp2_with fail
            refine bodyPost_ret ?_ rfl ⟨rfl, (Below.refl _ _).alloc (Nat.le_refl _) _⟩
            simp [results, Try.results89, go_sem, thingV]
      · rw [if_neg (fun e => hk e.1)]
        have u1 : (xk != kind) = true := by simpa using hk
        have u2 : (xk == kind) = false := by simpa using hk
        clear hk hrb
        rcases hbz with h1 | ⟨rfl, h1, h2⟩
        all_goals
          go_enter Try.func89, Try.ntmps89
          go_wp2_with fail
          with_reducible refine HAT.out.mono ?_
          rintro e w2 ⟨rfl, rfl⟩
          go_wp2_with fail
          refine bodyPost_ret (v := .tuple #[thingV noTh, .bool false]) (by simp [results, Try.results89, go_sem, thingV, noTh, zeroE]) rfl ⟨rfl, HB.out⟩
end Go.Proofs.Ytdmamecfmfhlmaa
namespace Go.Proofs.Ytdmamecfmfhlmaa
set_option maxRecDepth 100000
open Go.RowKit

theorem set4 {w : World} {g : Nat} {ty : TypeId} {a0 a1 a2 a3 b0 b1 b2 b3 : Value} (h : w.heap[g]? = some (.cells #[a0, a1, a2, a3] ty (0, 0))) :
    ((((w.setCell ⟨g, 0, none⟩ b0).setCell ⟨g, 1, none⟩ b1).setCell ⟨g, 2, none⟩ b2).setCell ⟨g, 3, none⟩ b3).heap[g]? = some (.cells #[b0, b1, b2, b3] ty (0, 0)) :=
  Joins.block_setCell (Joins.block_setCell (Joins.block_setCell (Joins.block_setCell h b0) b1) b2) b3
theorem wp_named {P : Program} {c : Code} {Q : Exit → Act → World → Prop} {a : Act} {w : World} (h : ∀ W, W = w → c.wp P Q a W) : c.wp P Q a w := h w rfl
end Go.Proofs.Ytdmamecfmfhlmaa
