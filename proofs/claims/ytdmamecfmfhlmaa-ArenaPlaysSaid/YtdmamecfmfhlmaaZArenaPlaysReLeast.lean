/-
  The least number that nothing has; the list of things stored anew.
-/
import Derived.Test.YtdmamecfmfhlmaaZArenaPlaysReGive
namespace Go.Proofs.Ytdmamecfmfhlmaa
set_option maxRecDepth 100000
open Go.RowKit

theorem nodup_sub {α : Type} [DecidableEq α] : ∀ {l m : List α}, l.Nodup → (∀ x ∈ l, x ∈ m) → l.length ≤ m.length
  | [], _, _, _ => Nat.zero_le _
  | a :: l, m, hn, h => by
    rw [List.nodup_cons] at hn
    have ha := h a List.mem_cons_self
    have ih := nodup_sub (l := l) (m := m.erase a) hn.2 fun x hx => by
      have hne : x ≠ a := fun e => hn.1 (by rw [← e]; exact hx)
      exact (List.mem_erase_of_ne hne).2 (h x (List.mem_cons_of_mem _ hx))
    have := List.length_pos_of_mem ha
    rw [List.length_erase_of_mem ha] at ih
    rw [List.length_cons]
    omega
theorem least_bound {T : List (Nat × Ent)} {id : Nat} (h : ∀ j, 2 ≤ j → j < id → ∃ p ∈ T, p.1 = j) : id ≤ T.length + 2 := by
  have h1 := nodup_sub (l := List.range' 2 (id - 2)) (m := T.map (·.1)) List.nodup_range' fun x hx => by
    rw [List.mem_range'_1] at hx
    obtain ⟨p, hp, e⟩ := h x hx.1 (by omega)
    rw [← e]
    exact List.mem_map_of_mem hp
  rw [List.length_range', List.length_map] at h1
  omega
theorem thN_free {T : List (Nat × Ent)} {id : Nat} (h : thN T (id : Int) = none) : ∀ p ∈ T, p.1 ≠ id := by
  unfold thN at h
  rw [List.findIdx?_eq_none_iff] at h
  intro p hp e
  have := h p hp
  rw [e] at this
  simp at this
theorem thN_used {T : List (Nat × Ent)} {id j : Nat} (h : thN T (id : Int) = some j) : (∃ p ∈ T, p.1 = id) ∧ j < T.length := by
  unfold thN at h
  rw [List.findIdx?_eq_some_iff_getElem] at h
  obtain ⟨hj, e, _⟩ := h
  have e' := of_decide_eq_true e
  exact ⟨⟨_, List.getElem_mem hj, by omega⟩, hj⟩
/-- Another list of things is stored, made out of the one that was there. -/
theorem ReAt.newlist {b : Nat} {S : RSt} {arr : Array Value} {v1 v' : Value} {vs : List Value} {w w1 : World} {F : Nat → Prop} {T' : List (Nat × Ent)} (h : ReAt b S arr v1 vs w F) (hk : Keeps (fun i => v1.ownBlock = some i) w w1) (hr : Row w1 118 9 v' T'.length (encTs T')) (hfew : T'.length ≤ 200000) :
    ReAt b { S with T := T' } (arr.setIfInBounds 1 v') v' vs (w1.setCell ⟨b, 1, none⟩ v') (fun i => F i ∨ v'.ownBlock = some i) := by
  have hs := h.size
  have hb1 := h.list.ne_type h.own (by decide)
  have hown1 : w1.heap[b]? = some (.cells arr 69 (0, 0)) := (hk.block b (lt_of_block h.own) hb1).trans h.own
  have hb' : v'.ownBlock ≠ some b := hr.ne_type hown1 (by decide)
  have oth : ∀ q, q ≠ b → (w1.setCell ⟨b, 1, none⟩ v').heap[q]? = w1.heap[q]? := fun q hq => Below.heap_setCell _ _ _ _ (by show q ≠ b; exact hq)
  refine ⟨Joins.block_setCell hown1 _, by rw [Array.size_setIfInBounds]; exact hs, by rw [set_at (by omega)]; exact h.c0, set_same (by omega), fun t ht => by rw [set_at (by omega)]; exact h.c2 t ht, fun t ht => by rw [set_at (by omega)]; exact h.c3 t ht, hfew, hr.keep fun q hq => oth q (fun e => hb' (by rw [hq, e])), h.len, fun t v hv => (h.rows t v hv).keep fun q hq => ?_, .inl h.fb, fun q hq => .inr hq, fun t v q hv hq => .inl (h.fv t v q hv hq), fun i hi => ?_, h.apart, h.qlen, h.slen⟩
  · have hlt := (h.rows t v hv).lt q hq
    rw [oth q (fun e => (h.rows t v hv).ne_type h.own (by decide) (by rw [hq, e]))]
    refine hk.block q hlt fun e => ?_
    obtain ⟨cur, hc⟩ := (h.rows t v hv).typed q hq
    exact h.list.ne_type hc (by decide) e
  · have e : (w1.setCell ⟨b, 1, none⟩ v').heap.size = w1.heap.size := by simp [World.setCell]
    rw [e]
    rcases hi with hi | hi
    · exact Nat.lt_of_lt_of_le (h.lt i hi) hk.size
    · exact hr.lt i hi
/-- The number in a box's first cell. -/
def boxNum (w : World) (b : Nat) : Nat := match w.cell? ⟨b, 0, none⟩ with
  | some (.int _ n) => n.toNat
  | _ => 0
end Go.Proofs.Ytdmamecfmfhlmaa
