/-
  The document's list of things in memory: cells stored, things moved up, what a tenant was given.
-/
import Derived.Test.YtdmamecfmfhlmaaZArenaPlaysReInv
import Derived.Test.YtdmamecfmfhlmaaZArenaPlaysHeld
namespace Go.Proofs.Ytdmamecfmfhlmaa
set_option maxRecDepth 100000
open Go.RowKit

theorem encTs_append (A B : List (Nat × Ent)) : encTs (A ++ B) = encTs A ++ encTs B := List.flatMap_append
theorem encTs_one (T : List (Nat × Ent)) : ∀ v ∈ encTs T, v.oneCell' = true := by
  intro v hv
  unfold encTs at hv
  rw [List.mem_flatMap] at hv
  obtain ⟨p, _, hp⟩ := hv
  have hp' : v = .int .i64 p.1 ∨ v = .int .i64 p.2.k ∨ v = .int .i64 p.2.lv ∨ v = .int .i64 p.2.va ∨ v = .int .i64 p.2.a ∨ v = .int .i64 p.2.b ∨ v = .int .i64 p.2.c ∨ v = .int .i64 p.2.d ∨ v = .int .u64 p.2.ma := by simpa [encTh] using hp
  rcases hp' with rfl | rfl | rfl | rfl | rfl | rfl | rfl | rfl | rfl <;> rfl
theorem encTs_set {u o' : Nat × Ent} {k : Nat} {v : Value} (hk : k < 9) (ho : encTh o' = (encTh u).set k v) : ∀ {T : List (Nat × Ent)} {i : Nat}, T[i]? = some u → (encTs T).set (i * 9 + k) v = encTs (T.set i o')
  | [], i, h => by simp at h
  | z :: T, 0, h => by
    obtain rfl : z = u := by simpa using h
    have h9 : (encTh z).length = 9 := rfl
    rw [List.set_cons_zero]
    unfold encTs
    rw [List.flatMap_cons, List.flatMap_cons, List.set_append_left _ _ (by rw [h9]; omega), ho, Nat.zero_mul, Nat.zero_add]
  | z :: T, i + 1, h => by
    have h9 : (encTh z).length = 9 := rfl
    have ih := encTs_set hk ho (T := T) (i := i) (by simpa using h)
    rw [List.set_cons_succ]
    unfold encTs at ih ⊢
    rw [List.flatMap_cons, List.flatMap_cons, List.set_append_right _ _ (by rw [h9]; omega), h9, ← ih]
    congr 2
    omega
theorem rowT_cell {w : World} {q o c i k : Nat} {T : List (Nat × Ent)} {u o' : Nat × Ent} {v : Value} (h : Row w 118 9 (.slice (some ⟨q, o, none⟩) T.length c) T.length (encTs T)) (hu : T[i]? = some u) (hk : k < 9) (ho : encTh o' = (encTh u).set k v) :
    Row (w.setCell ⟨q, o + i * 9 + k, none⟩ v) 118 9 (.slice (some ⟨q, o, none⟩) (T.set i o').length c) (T.set i o').length (encTs (T.set i o')) := by
  have h1 := h.stored (i * 9 + k) v
  rw [encTs_set hk ho hu, ← Nat.add_assoc] at h1
  rw [List.length_set]
  exact h1
theorem rowT_next {w : World} {q o c i k : Nat} {T : List (Nat × Ent)} {u o' : Nat × Ent} {v : Value} (hi : i < T.length) (h : Row w 118 9 (.slice (some ⟨q, o, none⟩) (T.set i u).length c) (T.set i u).length (encTs (T.set i u))) (hk : k < 9) (ho : encTh o' = (encTh u).set k v) :
    Row (w.setCell ⟨q, o + i * 9 + k, none⟩ v) 118 9 (.slice (some ⟨q, o, none⟩) (T.set i o').length c) (T.set i o').length (encTs (T.set i o')) := by
  have h1 := rowT_cell (u := u) h (List.getElem?_set_self hi) hk ho
  rwa [List.set_set] at h1
/-- A whole thing stored. -/
def store9 (w : World) (q a : Nat) (i k l v x0 x1 x2 x3 : Int) (m : Nat) : World := ((((((((w.setCell ⟨q, a, none⟩ (.int .i64 i)).setCell ⟨q, a + 1, none⟩ (.int .i64 k)).setCell ⟨q, a + 2, none⟩ (.int .i64 l)).setCell ⟨q, a + 3, none⟩ (.int .i64 v)).setCell ⟨q, a + 4, none⟩ (.int .i64 x0)).setCell ⟨q, a + 5, none⟩ (.int .i64 x1)).setCell ⟨q, a + 6, none⟩ (.int .i64 x2)).setCell ⟨q, a + 7, none⟩ (.int .i64 x3)).setCell ⟨q, a + 8, none⟩ (.int .u64 m)
theorem rowT_thing {w : World} {q o c i : Nat} {T : List (Nat × Ent)} {u : Nat × Ent} (h : Row w 118 9 (.slice (some ⟨q, o, none⟩) T.length c) T.length (encTs T)) (hu : T[i]? = some u) (id : Nat) (k l v x0 x1 x2 x3 : Int) (m : Nat) :
    Row (store9 w q (o + i * 9) id k l v x0 x1 x2 x3 m) 118 9 (.slice (some ⟨q, o, none⟩) T.length c) T.length (encTs (T.set i (id, ⟨k, x0, x1, x2, x3, l, v, m⟩))) := by
  have hi := (List.getElem?_eq_some_iff.1 hu).1
  obtain ⟨j, x⟩ := u
  have h0 := rowT_cell (k := 0) (o' := (id, x)) (v := .int .i64 id) h hu (by omega) rfl
  rw [Nat.add_zero] at h0
  have h1 := rowT_next hi h0 (k := 1) (o' := (id, { x with k := k })) (v := .int .i64 k) (by omega) rfl
  have h2 := rowT_next hi h1 (k := 2) (o' := (id, { x with k := k, lv := l })) (v := .int .i64 l) (by omega) rfl
  have h3 := rowT_next hi h2 (k := 3) (o' := (id, { x with k := k, lv := l, va := v })) (v := .int .i64 v) (by omega) rfl
  have h4 := rowT_next hi h3 (k := 4) (o' := (id, { x with k := k, lv := l, va := v, a := x0 })) (v := .int .i64 x0) (by omega) rfl
  have h5 := rowT_next hi h4 (k := 5) (o' := (id, { x with k := k, lv := l, va := v, a := x0, b := x1 })) (v := .int .i64 x1) (by omega) rfl
  have h6 := rowT_next hi h5 (k := 6) (o' := (id, { x with k := k, lv := l, va := v, a := x0, b := x1, c := x2 })) (v := .int .i64 x2) (by omega) rfl
  have h7 := rowT_next hi h6 (k := 7) (o' := (id, { x with k := k, lv := l, va := v, a := x0, b := x1, c := x2, d := x3 })) (v := .int .i64 x3) (by omega) rfl
  have h8 := rowT_next hi h7 (k := 8) (o' := (id, ⟨k, x0, x1, x2, x3, l, v, m⟩)) (v := .int .u64 m) (by omega) rfl
  rw [List.length_set] at h8
  exact h8
theorem keeps_store9 {w : World} {q a : Nat} {G : Nat → Prop} (hG : G q) (i k l v x0 x1 x2 x3 : Int) (m : Nat) : Keeps G w (store9 w q a i k l v x0 x1 x2 x3 m) :=
  ((((((((((Keeps.refl G w).setCell (p := ⟨q, a, none⟩) (fun _ => hG) _).setCell (p := ⟨q, a + 1, none⟩) (fun _ => hG) _).setCell (p := ⟨q, a + 2, none⟩) (fun _ => hG) _).setCell (p := ⟨q, a + 3, none⟩) (fun _ => hG) _).setCell (p := ⟨q, a + 4, none⟩) (fun _ => hG) _).setCell (p := ⟨q, a + 5, none⟩) (fun _ => hG) _).setCell (p := ⟨q, a + 6, none⟩) (fun _ => hG) _).setCell (p := ⟨q, a + 7, none⟩) (fun _ => hG) _).setCell (p := ⟨q, a + 8, none⟩) (fun _ => hG) _)
/-- Things moved up by one place. -/
theorem encTs_drop (T : List (Nat × Ent)) {k : Nat} (hk : k ≤ T.length) : encTs (T.drop k) = (encTs T).drop (k * 9) := by
  have e : encTs T = encTs (T.take k) ++ encTs (T.drop k) := by rw [← encTs_append, List.take_append_drop]
  have hl : (encTs (T.take k)).length = k * 9 := by rw [encTs_len, List.length_take]; congr 1; omega
  rw [e, ← hl, List.drop_left]
theorem encTs_take (T : List (Nat × Ent)) {k : Nat} (hk : k ≤ T.length) : encTs (T.take k) = (encTs T).take (k * 9) := by
  have e : encTs T = encTs (T.take k) ++ encTs (T.drop k) := by rw [← encTs_append, List.take_append_drop]
  have hl : (encTs (T.take k)).length = k * 9 := by rw [encTs_len, List.length_take]; congr 1; omega
  rw [e, ← hl, List.take_left]
theorem infoThS : (Try.prog.info? 118).map (·.size) = some 9 := by kernel_rfl
theorem row_shift {w : World} {g o n cap k : Nat} {T : List (Nat × Ent)} {z : Nat × Ent} (h : Row w 118 9 (.slice (some ⟨g, o, none⟩) (n + 1) cap) (n + 1) (encTs (T ++ [z]))) (hn : T.length = n) (hk : k < n) (c1 c2 : Nat) :
    ∃ w2, (Builtin.copy_ #[65, 65] 3 #[.slice (some ⟨g, o + (k + 1) * 9, none⟩) (n - k) c1, .slice (some ⟨g, o + k * 9, none⟩) (n + 1 - k) c2]).run Try.prog w = .ok (goInt (n - k : Nat)) w2 ∧
      Row w2 118 9 (.slice (some ⟨g, o, none⟩) (n + 1) cap) (n + 1) (encTs (T.take (k + 1) ++ T.drop k)) ∧ Keeps (fun i => i = g) w w2 := by
  rcases h.2 with ⟨h0, h1⟩ | ⟨g', o', cap', cur, hv, hg, hc, hm, hs, ht⟩
  · omega
  simp only [Value.slice.injEq, Option.some.injEq, Addr.mk.injEq, and_true, true_and] at hv
  obtain ⟨⟨rfl, rfl⟩, rfl⟩ := hv
  have hlen := h.1
  have hmin : Nat.min (n + 1 - k) (n - k) = n - k := by show min _ _ = _; omega
  have hml : (n + 1) * 9 ≤ cap * 9 := Nat.mul_le_mul_right _ hc
  have hcs : (encTs (T.drop k)).length = (n - k) * 9 := by rw [encTs_len, List.length_drop, hn]
  have hcp := run_copy_rowK (P := Try.prog) w 65 65 3 118 9 g (o + (k + 1) * 9) (n - k) c1 ⟨g, o + k * 9, none⟩ (n + 1 - k) c2 cur 118 (encTs (T.drop k)) Try.underlying65 infoThS hg
    (by rw [hmin]; exact hcs) (fun j v hj => by
      have hj' : j < (n - k) * 9 := by have := (List.getElem?_eq_some_iff.1 hj).1; rwa [hcs] at this
      rw [Addr.add_lit, Joins.cell_of_block hg]
      have e1 : cur[o + k * 9 + j]? = (encTs (T ++ [z]))[k * 9 + j]? := by
        rw [← ht, List.getElem?_take, if_pos (by omega), List.getElem?_drop, Array.getElem?_toList]
        congr 1; omega
      rw [e1, encTs_append, List.getElem?_append_left (by rw [encTs_len]; omega)]
      rw [encTs_drop T (by omega), List.getElem?_drop] at hj
      exact hj) (by rw [hcs]; omega) (encTs_one _)
  rw [hmin] at hcp
  refine ⟨_, hcp, ⟨by rw [encTs_len, List.length_append, List.length_take, List.length_drop]; omega, .inr ⟨g, o, cap, _, rfl, setRow_heap w g cur _ _ _ hg, hc, hm, ?_, ?_⟩⟩, (Keeps.refl (fun i => i = g) w).setRow (fun _ => rfl) _⟩
  · rw [List.size_toArray, List.length_append, List.length_append, List.length_take, List.length_drop, hcs]
    simp only [Array.length_toList]
    omega
  · have hcl : cur.toList.length = cur.size := Array.length_toList
    have e2 : (cur.toList.take (o + (k + 1) * 9)).drop o = encTs (T.take (k + 1)) := by
      have e3 : ((cur.toList.drop o).take ((n + 1) * 9)).take ((k + 1) * 9) = (encTs (T ++ [z])).take ((k + 1) * 9) := by rw [ht]
      rw [List.take_take, Nat.min_eq_left (by omega), encTs_append, List.take_append_of_le_length (by rw [encTs_len]; omega), ← encTs_take T (by omega)] at e3
      rw [List.drop_take, ← e3]
      congr 1; omega
    have hl0 : (cur.toList.take (o + (k + 1) * 9)).length = o + (k + 1) * 9 := by rw [List.length_take, hcl]; omega
    simp only
    rw [List.append_assoc, List.drop_append_of_le_length (by omega), e2, ← List.append_assoc, ← encTs_append]
    have hl9 : (encTs (T.take (k + 1) ++ T.drop k)).length = (n + 1) * 9 := by rw [encTs_len, List.length_append, List.length_take, List.length_drop]; omega
    rw [List.take_append_of_le_length (by omega), ← hl9, List.take_length]
theorem copy_none (w : World) (a b : Option Addr) (c' n c : Nat) : (Builtin.copy_ #[65, 65] 3 #[.slice a 0 c', .slice b n c]).run Try.prog w = .ok (goInt 0) w := by
  obtain ⟨i0, hi, hz0, hz1, hz2⟩ := info_parts infoTh
  have hl : ∀ x : Addr, (loadCells x 0).run Try.prog w = .ok #[] w := fun x => by simpa using run_loadCells_list (P := Try.prog) w x [] (by simp)
  cases a <;> cases b <;> simp [Builtin.copy_, run_underlying Try.underlying65, Builtin.lenOf, Builtin.firstCells, sizeOf, typeInfo, hi, storeCells, hl]
/-- The list of things has turned, at its place. -/
theorem ReAt.relist {b : Nat} {S : RSt} {arr : Array Value} {v1 : Value} {vs : List Value} {w w' : World} {F : Nat → Prop} {T' : List (Nat × Ent)} (h : ReAt b S arr v1 vs w F) (hk : Keeps (fun i => v1.ownBlock = some i) w w') (hr : Row w' 118 9 v1 T'.length (encTs T')) (hfew : T'.length ≤ 200000) :
    ReAt b { S with T := T' } arr v1 vs w' F := by
  have hb' := h.list.ne_type h.own (by decide)
  exact {
    own := (hk.block b (lt_of_block h.own) hb').trans h.own
    size := h.size
    c0 := h.c0
    c1 := h.c1
    c2 := h.c2
    c3 := h.c3
    few := hfew
    list := hr
    len := h.len
    rows := fun t v hv => (h.rows t v hv).keep fun q hq => hk.block q ((h.rows t v hv).lt q hq) fun e => by
      obtain ⟨cur, hc⟩ := (h.rows t v hv).typed q hq
      exact h.list.ne_type hc (by decide) e
    fb := h.fb
    f1 := h.f1
    fv := h.fv
    lt := fun i hi => Nat.lt_of_lt_of_le (h.lt i hi) hk.size
    apart := h.apart
    qlen := h.qlen
    slen := h.slen }
/-- What a tenant was given has grown. -/
theorem ReAt.sinced {b : Nat} {S : RSt} {arr : Array Value} {v1 v v' : Value} {vs : List Value} {w w1 : World} {F : Nat → Prop} {t : Nat} (h : ReAt b S arr v1 vs w F) (ht : t < 64) (hv : vs[t]? = some v) (l : List Nat)
    (hr : Row w1 3 1 v' l.length (l.map idV)) (hk : Keeps (fun i => v.ownBlock = some i) w w1) (hvo : ∀ q, v'.ownBlock = some q → v.ownBlock = some q ∨ w.heap.size ≤ q) :
    ReAt b { S with since := S.since.set t l } (arr.setIfInBounds (66 + t) v') v1 (vs.set t v') (w1.setCell ⟨b, 66 + t, none⟩ v') (fun i => F i ∨ v'.ownBlock = some i) := by
  have hs := h.size
  have hl := h.len
  have hvb := (h.rows t v hv).ne_type h.own (by decide)
  have hown1 : w1.heap[b]? = some (.cells arr 69 (0, 0)) := (hk.block b (lt_of_block h.own) hvb).trans h.own
  have hlt : ∀ i, F i → i < w1.heap.size := fun i hi => Nat.lt_of_lt_of_le (h.lt i hi) hk.size
  have get : ∀ s, (vs.set t v')[s]? = if s = t then some v' else vs[s]? := fun s => by
    rw [List.getElem?_set]
    by_cases e : t = s
    · subst e; rw [if_pos rfl, if_pos (by omega), if_pos rfl]
    · rw [if_neg e, if_neg (fun h => e h.symm)]
  have old : ∀ (s : Nat) (u : Value), (vs.set t v')[s]? = some u → (s = t ∧ u = v') ∨ (s ≠ t ∧ vs[s]? = some u) := fun s u hu => by
    rw [get] at hu
    by_cases e : s = t
    · rw [if_pos e] at hu; exact .inl ⟨e, (Option.some.inj hu).symm⟩
    · rw [if_neg e] at hu; exact .inr ⟨e, hu⟩
  have oth : ∀ q, q ≠ b → q < w.heap.size → v.ownBlock ≠ some q → (w1.setCell ⟨b, 66 + t, none⟩ v').heap[q]? = w.heap[q]? := fun q hq hql hqv => by
    rw [Below.heap_setCell _ _ _ _ (by show q ≠ b; exact hq)]
    exact hk.block q hql hqv
  have hsn : ∀ s, ({ S with since := S.since.set t l } : RSt).sn s = if s = t then l else S.sn s := fun s => by
    unfold RSt.sn
    simp only [List.getD_eq_getElem?_getD, List.getElem?_set]
    have hsl := h.slen
    by_cases e : t = s
    · subst e; rw [if_pos rfl, if_pos (by omega), if_pos rfl]; rfl
    · rw [if_neg e, if_neg (fun h => e h.symm)]
  have hv'b : ∀ q, v'.ownBlock = some q → q ≠ b := fun q hq e => by
    subst e
    exact hr.ne_type hown1 (by decide) hq
  have vlt : ∀ q, v'.ownBlock = some q → q < w1.heap.size := hr.lt
  have apart1 : ∀ s u q, s ≠ t → vs[s]? = some u → v'.ownBlock = some q → u.ownBlock ≠ some q := fun s u q hne hu hq e => by
    rcases hvo q hq with h1 | h1
    · exact h.apart t s v u q (fun e => hne e.symm) hv hu h1 e
    · have := (h.rows s u hu).lt q e
      omega
  refine ⟨Joins.block_setCell hown1 _, by rw [Array.size_setIfInBounds]; exact hs, by rw [set_at (by omega)]; exact h.c0, by rw [set_at (by omega)]; exact h.c1, fun s hs' => by rw [set_at (by omega)]; exact h.c2 s hs', fun s hs' => ?_, h.few, ?_, by rw [List.length_set]; exact hl, fun s u hu => ?_, .inl h.fb, fun q hq => .inl (h.f1 q hq), fun s u q hu hq => ?_, fun i hi => ?_, fun s1 s2 a u q hne ha hu hq => ?_, h.qlen, by show (S.since.set t l).length = 64; rw [List.length_set]; exact h.slen⟩
  · rw [get]
    by_cases e : s = t
    · subst e; rw [if_pos rfl, set_same (by omega)]
    · rw [if_neg e, set_at (by omega)]; exact h.c3 s hs'
  · exact h.list.keep fun q hq => oth q (fun e => h.list.ne_type h.own (by decide) (by rw [hq, e])) (h.list.lt q hq) fun e => by
      obtain ⟨cur, hc⟩ := h.list.typed q hq
      exact (h.rows t v hv).ne_type hc (by decide) e
  · rw [hsn]
    rcases old s u hu with ⟨rfl, rfl⟩ | ⟨hne, hu'⟩
    · rw [if_pos rfl]
      exact hr.keep fun q hq => Below.heap_setCell _ _ _ _ (hv'b q hq)
    · rw [if_neg hne]
      exact (h.rows s u hu').keep fun q hq => oth q (fun e => (h.rows s u hu').ne_type h.own (by decide) (by rw [hq, e])) ((h.rows s u hu').lt q hq) (fun e => h.apart s t u v q hne hu' hv hq e)
  · rcases old s u hu with ⟨rfl, rfl⟩ | ⟨hne, hu'⟩
    · exact .inr hq
    · exact .inl (h.fv s u q hu' hq)
  · have e : (w1.setCell ⟨b, 66 + t, none⟩ v').heap.size = w1.heap.size := by simp [World.setCell]
    rw [e]
    rcases hi with hi | hi
    · exact hlt i hi
    · exact vlt i hi
  · rcases old s1 a ha with ⟨rfl, rfl⟩ | ⟨h1, ha'⟩
    · rcases old s2 u hu with ⟨rfl, rfl⟩ | ⟨h2, hu'⟩
      · exact absurd rfl hne
      · exact apart1 s2 u q h2 hu' hq
    · rcases old s2 u hu with ⟨rfl, rfl⟩ | ⟨h2, hu'⟩
      · exact fun e => apart1 s1 a q h1 ha' e hq
      · exact h.apart s1 s2 a u q hne ha' hu' hq
end Go.Proofs.Ytdmamecfmfhlmaa
