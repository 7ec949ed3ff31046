/-
  The arena's keys, and a map's entry taken away; Heaps of numbers in lists: up and down.
-/
import Derived.Test.YtabhpbkkjijfjaaGreatDoorZHouseLogsMapCells
import Derived.Test.YtabhpbkkjijfjaaGreatDoorZHouseLogsArMath
namespace Go.Proofs.YtabhpbkkjijfjaaGreatDoor
set_option maxRecDepth 100000
open Go.RowKit Go.MapKept Go.ChangeMaps

def keyA (k : AKey) : Value := .agg #[.int .i64 k.1, .int .i64 k.2.1, .int .i64 k.2.2.1, .int .i64 k.2.2.2.1, .int .i64 k.2.2.2.2]
def GoodA (k : AKey) : Prop := I64 k.1 ∧ I64 k.2.1 ∧ I64 k.2.2.1 ∧ I64 k.2.2.2.1 ∧ I64 k.2.2.2.2
theorem keyA_inj (x y : AKey) (h : keyA x = keyA y) : x = y := by
  obtain ⟨x0, x1, x2, x3, x4⟩ := x
  obtain ⟨y0, y1, y2, y3, y4⟩ := y
  simp only [keyA, Value.agg.injEq] at h
  have := congrArg Array.toList h
  simp at this
  simp [this]
theorem key_keyed : KeyedBy Tryz.prog 209 keyA GoodA where
  law := Maps.Keyed.of_law (deep_law_gate laidOut (of_decide_eq_true (by kernel_rfl)) (of_decide_eq_true (by kernel_rfl)) (by kernel_rfl) (by kernel_rfl))
  inj := keyA_inj
  reads := fun c h => by
    obtain ⟨x0, x1, x2, x3, x4⟩ := c
    obtain ⟨h0, h1, h2, h3, h4⟩ := h
    have e1 : Tryz.prog.keyType 209 = true := by kernel_rfl
    have e2 : Value.formed Tryz.prog 209 (keyA (x0, x1, x2, x3, x4)) = true := by kernel_rfl
    have e3 : Tryz.prog.cellsOf 207 = 4 := by kernel_rfl
    have e4 : Tryz.prog.cellsOf 3 = 1 := by kernel_rfl
    have wf : ∀ n, I64 n → (Lit.int .i64 n).wf = true := fun n hn => WalkArith.wf_i64 (by unfold I64 at hn; omega)
    have e5 : Tryz.prog.cellsOf 209 = 5 := by kernel_rfl
    have li : ∀ d n, I64 n → Tryz.prog.keyLits (d + 1) 3 [.int .i64 n] = some [.int .i64 n] := fun d n hn => by
      simp [Program.keyLits, Tryz.underlying3, wf n hn]
    have la : ∀ d, Tryz.prog.keyLits (d + 2) 207 [.int .i64 x1, .int .i64 x2, .int .i64 x3, .int .i64 x4] = some [.int .i64 x1, .int .i64 x2, .int .i64 x3, .int .i64 x4] := fun d => by
      simp [Program.keyLits, Tryz.underlying207, Tryz.underlying3, e3, e4, show List.range 4 = [0, 1, 2, 3] from rfl, wf x1 h1, wf x2 h2, wf x3 h3, wf x4 h4]
    have lc : Tryz.prog.keyLits (Tryz.prog.types.size + 1) 209 (keyA (x0, x1, x2, x3, x4)).cells.toList = some [.int .i64 x0, .int .i64 x1, .int .i64 x2, .int .i64 x3, .int .i64 x4] := by
      obtain ⟨d, hd⟩ : ∃ d, Tryz.prog.types.size = d + 2 := ⟨Tryz.prog.types.size - 2, by kernel_rfl⟩
      rw [hd]
      unfold Program.keyLits
      simp [Tryz.underlying209, e3, e4, e5, keyA, Value.cells, li _ x0 h0, la]
    simp only [keyOf, Tryz.underlying209, e1, e2, lc]
    exact ⟨_, rfl⟩
def delM {α : Type} [DecidableEq α] (f : α → Option Value) (a : α) : α → Option Value := fun x => if x = a then none else f x
theorem delM_same {α : Type} [DecidableEq α] (f : α → Option Value) (a : α) : delM f a a = none := by simp [delM]
theorem delM_other {α : Type} [DecidableEq α] (f : α → Option Value) {a x : α} (h : x ≠ a) : delM f a x = f x := by simp [delM, h]
/-- An entry taken away. -/
theorem MapOf.del {α : Type} [DecidableEq α] {key : α → Value} {Good : α → Prop} {w : World} {b n : Nat} {f : α → Option Value} {P : Program} {k : TypeId} (K : KeyedBy P k key Good) {t e ty : TypeId} (ht : P.underlying t = some (.map k e)) (h : MapOf key Good w b n f) {a : α} (ha : Good a) :
    ∃ w', (Builtin.delete_ #[t, k] ty #[.map (some b), key a]).run P w = .ok (.tuple #[]) w' ∧ MapOf key Good w' b n (delM f a) ∧ Keeps (fun i => i = b) w w' ∧ w'.heap.size = w.heap.size := by
  obtain ⟨es, clock, hb, hn, hs, h1, h2⟩ := h
  have hblt := lt_of_block hb
  obtain ⟨l, hl⟩ := K.reads a ha
  have hat : ∀ o, (setBlock w b o).heap[b]? = some o := fun o => by simp [setBlock, hblt]
  rcases MapOf.find K h1 h2 ha w with ⟨hf, h3, hno⟩ | ⟨j, e0, hj, hk0, hf, h3⟩
  · refine ⟨setBlock w b (.map es clock), ?_, ⟨es, clock, hat _, hn, hs, fun e he => ?_, fun x v hx => ?_⟩, keeps_set _ _ _, by simp [setBlock]⟩
    · simp [Builtin.delete_, run_underlying ht, MapKept.run_getObj_map hb, K.law.check w _ hl, h3, MapKept.run_setObj_map _ hb, Result.andThen, setBlock]
    · obtain ⟨x, hx, hy, hz⟩ := h1 e he
      exact ⟨x, hx, hy, by rw [delM_other f (fun e1 => hno e he (by rw [hy, e1])), hz]⟩
    · by_cases hxa : x = a
      · rw [hxa, delM_same] at hx; cases hx
      · rw [delM_other f hxa] at hx; exact h2 x v hx
  · have hjl := (List.getElem?_eq_some_iff.1 hj).1
    have hjs : j < es.size := by simpa using hjl
    have hsub : (es.eraseIdxIfInBounds j).toList = es.toList.eraseIdx j := by
      unfold Array.eraseIdxIfInBounds
      rw [dif_pos hjs]
      simp
    have other : ∀ e ∈ (es.eraseIdxIfInBounds j).toList, e ∈ es.toList ∧ e.key ≠ key a := fun e he => by
      rw [hsub, List.mem_eraseIdx_iff_getElem?] at he
      obtain ⟨i, hne, hi⟩ := he
      refine ⟨List.mem_of_getElem? hi, fun hk => hne ?_⟩
      have g1 : (es.toList.map (·.key))[i]? = some e.key := by rw [List.getElem?_map, hi]; rfl
      have g2 : (es.toList.map (·.key))[j]? = some e0.key := by rw [List.getElem?_map, hj]; rfl
      have hlt : i < (es.toList.map (·.key)).length := (List.getElem?_eq_some_iff.1 g1).1
      exact (List.getElem?_inj (j := j) hlt hs.2.2).1 (by rw [g1, g2, hk, hk0])
    refine ⟨setBlock w b (.map (es.eraseIdxIfInBounds j) clock), ?_, ⟨_, clock, hat _, Nat.le_trans (MapFrom.size_erase es j) hn, MapKept.stamped_erase hs j, fun e he => ?_, fun x v hx => ?_⟩, keeps_set _ _ _, by simp [setBlock]⟩
    · simp [Builtin.delete_, run_underlying ht, MapKept.run_getObj_map hb, K.law.check w _ hl, h3, MapKept.run_setObj_map _ hb, Result.andThen, setBlock]
    · obtain ⟨hm, hne⟩ := other e he
      obtain ⟨x, hx, hy, hz⟩ := h1 e hm
      exact ⟨x, hx, hy, by rw [delM_other f (fun e1 => hne (by rw [hy, e1])), hz]⟩
    · by_cases hxa : x = a
      · rw [hxa, delM_same] at hx; cases hx
      · rw [delM_other f hxa] at hx
        obtain ⟨e, he, hk⟩ := h2 x v hx
        refine ⟨e, ?_, hk⟩
        rw [hsub, List.mem_eraseIdx_iff_getElem?]
        obtain ⟨i, hi⟩ := List.mem_iff_getElem?.1 he
        refine ⟨i, fun e1 => ?_, hi⟩
        subst e1
        rw [hj] at hi
        cases hi
        exact hxa (K.inj _ _ (hk.symm.trans hk0))
end Go.Proofs.YtabhpbkkjijfjaaGreatDoor
namespace Go.Proofs.YtabhpbkkjijfjaaGreatDoor
set_option maxRecDepth 100000

/-- A heap's order among the first n. -/
def HeapN (n : Nat) (l : List Nat) : Prop := ∀ j x y, 0 < j → j < n → l[(j - 1) / 2]? = some x → l[j]? = some y → x ≤ y
/-- In order, but for k and its parent. -/
structure HeapX (l : List Nat) (k : Nat) : Prop where
  all : ∀ j x y, 0 < j → j ≠ k → l[(j - 1) / 2]? = some x → l[j]? = some y → x ≤ y
  over : ∀ c x z, 0 < k → 0 < c → (c - 1) / 2 = k → l[(k - 1) / 2]? = some x → l[c]? = some z → x ≤ z
theorem swap_get {l : List Nat} {i k x y : Nat} (hx : l[i]? = some x) (hy : l[k]? = some y) (j : Nat) : ((l.set i y).set k x)[j]? = if j = k then some x else if j = i then some y else l[j]? := by
  have hi := (List.getElem?_eq_some_iff.1 hx).1
  have hk := (List.getElem?_eq_some_iff.1 hy).1
  rw [List.getElem?_set, List.length_set, List.getElem?_set]
  by_cases h1 : k = j
  · rw [if_pos h1, if_pos (by omega), if_pos h1.symm]
  · rw [if_neg h1, if_neg (show ¬ j = k by omega)]
    by_cases h2 : i = j
    · rw [if_pos h2, if_pos (show i < l.length by omega), if_pos h2.symm]
    · rw [if_neg h2, if_neg (show ¬ j = i by omega)]
theorem swap_perm {l : List Nat} {i k x y : Nat} (hx : l[i]? = some x) (hy : l[k]? = some y) : ((l.set i y).set k x).Perm l := by
  obtain ⟨hi, ei⟩ := List.getElem?_eq_some_iff.1 hx
  obtain ⟨hk, ek⟩ := List.getElem?_eq_some_iff.1 hy
  have := List.set_set_perm hi hk
  rwa [ei, ek] at this
theorem HeapX.done {l : List Nat} {k : Nat} (h : HeapX l k) (hk : k = 0 ∨ ∃ x y, l[(k - 1) / 2]? = some x ∧ l[k]? = some y ∧ x ≤ y) : HeapN l.length l := by
  intro j x y h0 _ hx hy
  by_cases e : j = k
  · subst e
    rcases hk with hk | ⟨x', y', h1, h2, h3⟩
    · omega
    · rw [hx] at h1; rw [hy] at h2
      cases h1; cases h2; exact h3
  · exact h.all j x y h0 e hx hy
theorem HeapX.swap {l : List Nat} {k x y : Nat} (h : HeapX l k) (hk : 0 < k) (hx : l[(k - 1) / 2]? = some x) (hy : l[k]? = some y) (hlt : y < x) : HeapX ((l.set ((k - 1) / 2) y).set k x) ((k - 1) / 2) := by
  have hg := swap_get hx hy
  obtain ⟨i, hi⟩ : ∃ i, i = (k - 1) / 2 := ⟨_, rfl⟩
  rw [← hi] at hg hx ⊢
  refine ⟨fun j u v h0 hji hu hv => ?_, fun c u v h0 hc hci hu hv => ?_⟩
  · rw [hg] at hu hv
    by_cases e1 : j = k
    · subst e1
      rw [← hi, if_neg (by omega), if_pos rfl] at hu
      rw [if_pos rfl] at hv
      cases hu; cases hv; omega
    · rw [if_neg e1, if_neg hji] at hv
      by_cases e2 : (j - 1) / 2 = k
      · rw [if_pos e2] at hu
        cases hu
        exact h.over j x v hk h0 e2 (by rw [← hi]; exact hx) hv
      · rw [if_neg e2] at hu
        by_cases e3 : (j - 1) / 2 = i
        · rw [if_pos e3] at hu
          cases hu
          have := h.all j x v h0 e1 (by rw [e3]; exact hx) hv
          omega
        · rw [if_neg e3] at hu
          exact h.all j u v h0 e1 hu hv
  · rw [hg] at hu hv
    rw [if_neg (by omega), if_neg (by omega)] at hu
    have hp := h.all i u x h0 (by omega) hu hx
    by_cases e1 : c = k
    · rw [if_pos e1] at hv
      cases hv; exact hp
    · rw [if_neg e1, if_neg (by omega)] at hv
      have := h.all c x v hc e1 (by rw [hci]; exact hx) hv
      omega
/-- A number put behind a heap. -/
theorem HeapX.push {l : List Nat} (h : HeapN l.length l) (x : Nat) : HeapX (l ++ [x]) l.length := by
  refine ⟨fun j u v h0 hj hu hv => ?_, fun c u v h0 hc hci hu hv => ?_⟩
  · have hl := (List.getElem?_eq_some_iff.1 hv).1
    rw [List.length_append, List.length_singleton] at hl
    have hj2 : j < l.length := by omega
    rw [List.getElem?_append_left hj2] at hv
    rw [List.getElem?_append_left (by omega)] at hu
    exact h j u v h0 hj2 hu hv
  · have hl := (List.getElem?_eq_some_iff.1 hv).1
    rw [List.length_append, List.length_singleton] at hl
    omega
/-- In order among the first n, but for k and its children. -/
structure HeapD (n : Nat) (l : List Nat) (k : Nat) : Prop where
  all : ∀ j x y, 0 < j → j < n → (j - 1) / 2 ≠ k → l[(j - 1) / 2]? = some x → l[j]? = some y → x ≤ y
  over : ∀ c x z, 0 < k → 0 < c → c < n → (c - 1) / 2 = k → l[(k - 1) / 2]? = some x → l[c]? = some z → x ≤ z
theorem HeapD.done {n : Nat} {l : List Nat} {k : Nat} (h : HeapD n l k) (hk : ∀ c x y, 0 < c → c < n → (c - 1) / 2 = k → l[k]? = some x → l[c]? = some y → x ≤ y) : HeapN n l := by
  intro j x y h0 hj hx hy
  by_cases e : (j - 1) / 2 = k
  · rw [e] at hx; exact hk j x y h0 hj e hx hy
  · exact h.all j x y h0 hj e hx hy
/-- k changed with its lesser child. -/
theorem HeapD.swap {n : Nat} {l : List Nat} {k c x y : Nat} (h : HeapD n l k) (hc0 : 0 < c) (hcn : c < n) (hck : (c - 1) / 2 = k) (hx : l[k]? = some x) (hy : l[c]? = some y) (hlt : y < x)
    (hmin : ∀ d z, 0 < d → d < n → (d - 1) / 2 = k → l[d]? = some z → y ≤ z) : HeapD n ((l.set k y).set c x) c := by
  have hg := swap_get hx hy
  refine ⟨fun j u v h0 hj hjc hu hv => ?_, fun d u v h0 hd0 hdn hdc hu hv => ?_⟩
  · rw [hg] at hu hv
    rw [if_neg hjc] at hu
    by_cases e1 : j = c
    · rw [if_pos e1] at hv
      cases hv
      rw [e1, hck, if_pos rfl] at hu
      cases hu; omega
    · rw [if_neg e1] at hv
      by_cases e2 : (j - 1) / 2 = k
      · rw [if_pos e2] at hu
        cases hu
        by_cases e3 : j = k
        · omega
        · rw [if_neg e3] at hv
          exact hmin j v h0 hj e2 hv
      · rw [if_neg e2] at hu
        by_cases e3 : j = k
        · rw [if_pos e3] at hv
          cases hv
          rw [e3] at hu
          exact h.over c u y (by omega) hc0 hcn hck hu hy
        · rw [if_neg e3] at hv
          exact h.all j u v h0 hj e2 hu hv
  · rw [hg] at hu hv
    rw [hck, if_neg (by omega), if_pos rfl] at hu
    cases hu
    rw [if_neg (by omega), if_neg (by omega)] at hv
    exact h.all d y v hd0 hdn (by omega) (by rw [hdc]; exact hy) hv
/-- The first of a heap is the least. -/
theorem HeapN.least {n : Nat} {l : List Nat} (h : HeapN n l) (hn : n ≤ l.length) : ∀ j x y, j < n → l[0]? = some x → l[j]? = some y → x ≤ y := by
  intro j
  induction j using Nat.strongRecOn with
  | ind j ih =>
    intro x y hj hx hy
    rcases Nat.eq_zero_or_pos j with rfl | h0
    · rw [hx] at hy; cases hy; exact Nat.le_refl _
    · obtain ⟨z, hz⟩ : ∃ z, l[(j - 1) / 2]? = some z := ⟨_, List.getElem?_eq_getElem (by omega)⟩
      have h1 := ih ((j - 1) / 2) (by omega) x z (by omega) hx hz
      have h2 := h j z y h0 hj hz hy
      omega
/-- The last one put ahead. -/
theorem HeapD.pop {l : List Nat} {x y : Nat} (h : HeapN l.length l) (hx : l[0]? = some x) (hy : l[l.length - 1]? = some y) : HeapD (l.length - 1) ((l.set 0 y).set (l.length - 1) x) 0 := by
  have hg := swap_get hx hy
  refine ⟨fun j u v h0 hj hj0 hu hv => ?_, fun c u v h0 => by omega⟩
  rw [hg, if_neg (by omega), if_neg hj0] at hu
  rw [hg, if_neg (by omega), if_neg (by omega)] at hv
  exact h j u v h0 (by omega) hu hv
end Go.Proofs.YtabhpbkkjijfjaaGreatDoor
