/-
  What the maps of rule.Next hold, round by round.
-/
import Derived.Test.YtffgpjkkgndkiaaNextMath2
import Derived.Test.YtffgpjkkgndkiaaMerges
import Derived.Test.YtffgpjkkgndkiaaMapRange
namespace Go.Proofs.Ytffgpjkkgndkiaa
set_option maxRecDepth 100000
open Go.RowKit

def holdV (V : List ((Int × Int) × Int)) (d : Int × Int) : Option Value := if d ∈ V.map (·.1) then some (.int .i64 (sumV V d)) else none
theorem holdV_get (V : List ((Int × Int) × Int)) (d : Int × Int) : (holdV V d).getD (.int .i64 0) = .int .i64 (sumV V d) := by
  unfold holdV
  split
  · rfl
  · next h => rw [sumV_absent h]; rfl
theorem holdV_step (V : List ((Int × Int) × Int)) (d : Int × Int) (x : Int) : updM (holdV V) d (.int .i64 (sumV V d + x)) = holdV (V ++ [(d, x)]) := by
  funext c
  have hs : sumV (V ++ [(d, x)]) c = sumV V c + if d = c then x else 0 := by rw [sumV_append]; simp [sumV]
  have hm : c ∈ (V ++ [(d, x)]).map (·.1) ↔ c ∈ V.map (·.1) ∨ c = d := by rw [List.map_append, List.mem_append]; simp
  by_cases h : c = d
  · subst h
    rw [updM_same, holdV, if_pos (hm.2 (.inr rfl)), hs, if_pos rfl]
  · rw [updM_other _ _ h, holdV, holdV]
    by_cases hc : c ∈ V.map (·.1)
    · rw [if_pos hc, if_pos (hm.2 (.inl hc)), hs, if_neg (fun e => h e.symm), Int.add_zero]
    · rw [if_neg hc, if_neg (fun e => (hm.1 e).elim hc h)]
theorem holdV_nil : (fun _ => none : Int × Int → Option Value) = holdV [] := by funext x; simp [holdV]
def nowM (u : Value) (s : List (Int × Int)) (d : Int × Int) : Option Value := if d ∈ s then some u else none
theorem nowM_nil (u : Value) : (fun _ => none : Int × Int → Option Value) = nowM u [] := by funext x; simp [nowM]
theorem nowM_step (u : Value) (s : List (Int × Int)) (d : Int × Int) : updM (nowM u s) d u = nowM u (s ++ [d]) := by
  funext c
  by_cases h : c = d
  · subst h; simp [updM, nowM]
  · rw [updM_other _ _ h]; simp [nowM, h]
def Ones (V : List ((Int × Int) × Int)) : Prop := ∀ p ∈ V, p.2 = 0 ∨ p.2 = 1
theorem sumV_bound {V : List ((Int × Int) × Int)} (h : Ones V) (d : Int × Int) : 0 ≤ sumV V d ∧ sumV V d ≤ V.length := by
  induction V with
  | nil => exact ⟨by simp [sumV], by simp [sumV]⟩
  | cons p V ih =>
    have h1 := ih (fun q hq => h q (List.mem_cons_of_mem _ hq))
    have h2 := h p (List.mem_cons_self ..)
    have e : sumV (p :: V) d = (if p.1 = d then p.2 else 0) + sumV V d := by simp [sumV]
    rw [e, List.length_cons]
    split <;> omega
theorem ones_nine (s : List (Int × Int)) : Ones (s.flatMap nineV) := fun p hp => by
  obtain ⟨c, _, h⟩ := List.mem_flatMap.1 hp
  simp only [nineV, List.mem_map] at h
  obtain ⟨i, _, rfl⟩ := h
  by_cases hi : i = 4 <;> simp [hi]
theorem ones_take (s : List (Int × Int)) (c : Int × Int) (i : Nat) : Ones (s.flatMap nineV ++ (nineV c).take i) := fun p hp => by
  rcases List.mem_append.1 hp with h | h
  · exact ones_nine s p h
  · exact ones_nine [c] p (by simpa using List.mem_of_mem_take h)
theorem nines_len : ∀ s : List (Int × Int), (s.flatMap nineV).length = s.length * 9
  | [] => rfl
  | c :: s => by rw [List.flatMap_cons, List.length_append, nineV_len, nines_len s, List.length_cons]; omega
theorem len_take (s : List (Int × Int)) (c : Int × Int) (i : Nat) (h : s.length ≤ 4096) : (s.flatMap nineV ++ (nineV c).take i).length ≤ 40000 := by
  have h1 := nines_len s
  have h2 := nineV_len c
  rw [List.length_append, List.length_take, h1, h2]
  omega
theorem nine_next {V : List ((Int × Int) × Int)} {c : Int × Int} {i : Nat} (h : i < 9) : V ++ (nineV c).take (i + 1) = (V ++ (nineV c).take i) ++ [(ninth c i, if i = 4 then 0 else 1)] := by
  rw [List.take_add_one, nineV_get h]
  simp
theorem nine_all (s : List (Int × Int)) {k : Nat} {c : Int × Int} (h : s[k]? = some c) : (s.take k).flatMap nineV ++ (nineV c).take 9 = (s.take (k + 1)).flatMap nineV := by
  have ht : s.take (k + 1) = s.take k ++ [c] := by rw [List.take_add_one, h]; rfl
  rw [ht, List.flatMap_append, List.take_of_length_le (l := nineV c) (by rw [nineV_len]; exact Nat.le_refl _)]
  simp
theorem fst_nine (s : List (Int × Int)) : (s.flatMap nineV).map (·.1) = s.flatMap nineC := by
  rw [List.map_flatMap]
  congr 1
theorem Ranging.mem {α : Type} {key : α → Value} {Good : α → Prop} {P : Program} {k : TypeId} (K : KeyedBy P k key Good) {w : World} {b r : Nat} {f : α → Option Value} {D : List α} (h : Ranging key Good w b r f D) {a : α} (ha : a ∈ D) : ∃ v, f a = some v := by
  obtain ⟨es, clock, since, seen, c0, h1, h2, _, _, _, _, h3, h4, h5, h6⟩ := h
  obtain ⟨e, he, hk, _⟩ := (h6 a).1 ha
  obtain ⟨a', _, hk', hv⟩ := h3 e he
  exact ⟨e.val, by rw [← hv, K.inj _ _ (hk.symm.trans hk')]⟩
theorem nodup_le : ∀ {D l : List (Int × Int)}, D.Nodup → (∀ a ∈ D, a ∈ l) → D.length ≤ l.length
  | [], _, _, _ => Nat.zero_le _
  | a :: D, l, hn, h => by
    have h1 := List.nodup_cons.1 hn
    have ha := h a (List.mem_cons_self ..)
    have ih := nodup_le (l := l.erase a) h1.2 fun b hb => (List.mem_erase_of_ne (fun e => h1.1 (by rw [← e]; exact hb))).2 (h b (List.mem_cons_of_mem _ hb))
    rw [List.length_erase_of_mem ha] at ih
    have := List.length_pos_of_mem ha
    rw [List.length_cons]
    omega
theorem nineCs_len : ∀ s : List (Int × Int), (s.flatMap nineC).length = s.length * 9
  | [] => rfl
  | c :: s => by rw [List.flatMap_cons, List.length_append, nineC_len, nineCs_len s, List.length_cons]; omega
theorem near_le (s : List (Int × Int)) (d : Int × Int) : nearF s d ≤ 8 := by
  unfold nearF
  refine Nat.le_trans (List.length_filter_le _ _) ?_
  simp [eightF]
theorem tidy_near {zs xs : List (Int × Int)} (h : (xs, 0) = tidyF zs) : ∀ c ∈ xs, -1099511627776 < c.1 ∧ c.1 < 1099511627776 ∧ -1099511627776 < c.2 ∧ c.2 < 1099511627776 := by
  obtain ⟨_, hf, ht⟩ := tidyF_ok (l := zs) (by rw [← h])
  rw [ht] at h
  simp only [Prod.mk.injEq, and_true] at h
  intro c hc
  rw [h, mem_sortF] at hc
  have : ¬ farC c = true := fun h' => by
    have := List.any_eq_true.2 ⟨c, hc, h'⟩
    rw [hf] at this; cases this
  simp [farC, farF] at this
  omega
theorem ninth_at (x y : Int) {p t : Nat} (ht : t < 3) : ninth (x, y) (3 * p + t) = (x + ((t : Int) - 1), y + ((p : Int) - 1)) := by
  have h1 : (3 * p + t) % 3 = t := by omega
  have h2 : (3 * p + t) / 3 = p := by omega
  rw [ninth, h1, h2]
  simp only [Prod.mk.injEq]
  omega
end Go.Proofs.Ytffgpjkkgndkiaa
