/-
  How far the first live row or column of a tree lies from a side: plain.
-/
import Derived.Test.YtdmamecfmfhlmaaZQuadReadsQPutMath
namespace Go.Proofs.Ytdmamecfmfhlmaa
set_option maxRecDepth 100000

def kidT : Nat → Tree → Tree
  | 0, .node a _ _ _ => a
  | 1, .node _ b _ _ => b
  | 2, .node _ _ c _ => c
  | _, .node _ _ _ d => d
  | _, .leaf b => .leaf b
def nearK : Nat → Nat × Nat
  | 0 => (0, 1)
  | 1 => (2, 3)
  | 2 => (0, 2)
  | _ => (1, 3)
def farK : Nat → Nat × Nat
  | 0 => (2, 3)
  | 1 => (0, 1)
  | 2 => (1, 3)
  | _ => (0, 2)
/-- What look makes of a quarter: the best so far, if any. -/
def lookT (e : Tree → Nat) (add : Nat) (T : Tree) (acc : Option Nat) : Option Nat :=
  if emB T then acc else some (match acc with | none => add + e T | some m => if add + e T < m then add + e T else m)
def edgeT : Nat → Nat → Tree → Nat
  | 0, _, _ => 0
  | n + 1, s, T => match lookT (edgeT n s) 0 (kidT (nearK s).2 T) (lookT (edgeT n s) 0 (kidT (nearK s).1 T) none) with
    | some m => m
    | none => (lookT (edgeT n s) (2 ^ n) (kidT (farK s).2 T) (lookT (edgeT n s) (2 ^ n) (kidT (farK s).1 T) none)).getD 0
/-- A cell's distance from a side. -/
def distS (s n : Nat) (x y : Int) (z : Int × Int) : Int :=
  match s with
  | 0 => z.2 - y
  | 1 => y + 2 ^ n - 1 - z.2
  | 2 => z.1 - x
  | _ => x + 2 ^ n - 1 - z.1
/-- The least of a number over cells, if there are any. -/
def IsMin (C : CellL) (f : Int × Int → Int) (o : Option Nat) : Prop := (o = none → C = []) ∧ ∀ m, o = some m → (∀ z ∈ C, (m : Int) ≤ f z) ∧ ∃ z ∈ C, f z = m
theorem IsMin.look {C D : CellL} {f : Int × Int → Int} {o : Option Nat} {e : Tree → Nat} {add : Nat} {T : Tree} (h : IsMin C f o) (h1 : emB T = true → D = []) (h2 : emB T = false → (∀ z ∈ D, (add : Int) + e T ≤ f z) ∧ ∃ z ∈ D, f z = (add : Int) + e T) : IsMin (C ++ D) f (lookT e add T o) := by
  unfold lookT
  cases hT : emB T with
  | true =>
    rw [if_pos rfl, h1 hT, List.append_nil]
    exact h
  | false =>
    rw [if_neg (by decide)]
    obtain ⟨g1, z0, g2, g3⟩ := h2 hT
    cases o with
    | none =>
      rw [h.1 rfl, List.nil_append]
      refine ⟨fun e => (by cases e), fun m hm => ?_⟩
      simp only [Option.some.injEq] at hm
      subst hm
      exact ⟨fun z hz => by have := g1 z hz; omega, z0, g2, by rw [g3]; omega⟩
    | some k =>
      obtain ⟨k1, z1, k2, k3⟩ := h.2 k rfl
      refine ⟨fun e => (by cases e), fun m hm => ?_⟩
      simp only [Option.some.injEq] at hm
      subst hm
      split
      · refine ⟨fun z hz => ?_, z0, List.mem_append.2 (.inr g2), by rw [g3]; omega⟩
        rcases List.mem_append.1 hz with hz | hz
        · have := k1 z hz; omega
        · have := g1 z hz; omega
      · refine ⟨fun z hz => ?_, z1, List.mem_append.2 (.inl k2), k3⟩
        rcases List.mem_append.1 hz with hz | hz
        · exact k1 z hz
        · have := g1 z hz; omega
/-- The cells of a quarter, in place. -/
def cellsK (n : Nat) (k : Nat) (T : Tree) (x y : Int) : CellL := cellsT n (kidT k T) (if k = 1 ∨ k = 3 then x + 2 ^ n else x) (if k = 2 ∨ k = 3 then y + 2 ^ n else y)
theorem full_kid {n : Nat} {T : Tree} (h : Full (n + 1) T) (k : Nat) : Full n (kidT k T) := by
  match T, h with
  | .leaf _, h => exact h.elim
  | .node a b c d, ⟨ha, hb, hc, hd⟩ =>
    match k with
    | 0 => exact ha
    | 1 => exact hb
    | 2 => exact hc
    | _ + 3 => exact hd
theorem cells_empty {n : Nat} {T : Tree} (h : Full n T) (he : emB T = true) (x y : Int) : cellsT n T x y = [] := by
  rw [(emB_eq h).1 he, cellsT_empty]
theorem cells_some {n : Nat} {T : Tree} (h : Full n T) (he : emB T = false) (x y : Int) : cellsT n T x y ≠ [] := fun e => by
  have := cellsT_len x y h
  rw [e] at this
  unfold emB at he
  rw [decide_eq_false_iff_not] at he
  exact he this.symm
theorem dist_lt {s n : Nat} {T : Tree} {x y : Int} {z : Int × Int} (h : z ∈ cellsT n T x y) : 0 ≤ distS s n x y z ∧ distS s n x y z < 2 ^ n := by
  have := cellsT_in h
  unfold distS
  split <;> omega
theorem dist_near {s n : Nat} (hs : s < 4) (x y : Int) (z : Int × Int) {k : Nat} (hk : k = (nearK s).1 ∨ k = (nearK s).2) :
    distS s (n + 1) x y z = distS s n (if k = 1 ∨ k = 3 then x + 2 ^ n else x) (if k = 2 ∨ k = 3 then y + 2 ^ n else y) z := by
  have e : (2 : Int) ^ (n + 1) = 2 ^ n + 2 ^ n := by rw [Int.pow_succ]; omega
  rcases (show s = 0 ∨ s = 1 ∨ s = 2 ∨ s = 3 by omega) with rfl | rfl | rfl | rfl <;> rcases hk with rfl | rfl <;> simp [distS, nearK, e] <;> omega
theorem dist_far {s n : Nat} (hs : s < 4) (x y : Int) (z : Int × Int) {k : Nat} (hk : k = (farK s).1 ∨ k = (farK s).2) :
    distS s (n + 1) x y z = 2 ^ n + distS s n (if k = 1 ∨ k = 3 then x + 2 ^ n else x) (if k = 2 ∨ k = 3 then y + 2 ^ n else y) z := by
  have e : (2 : Int) ^ (n + 1) = 2 ^ n + 2 ^ n := by rw [Int.pow_succ]; omega
  rcases (show s = 0 ∨ s = 1 ∨ s = 2 ∨ s = 3 by omega) with rfl | rfl | rfl | rfl <;> rcases hk with rfl | rfl <;> simp [distS, farK, e] <;> omega
theorem or4a {A B C D : Prop} : A ∨ B ∨ C ∨ D ↔ (A ∨ B) ∨ C ∨ D := ⟨fun h => by rcases h with h | h | h | h <;> simp [h], fun h => by rcases h with (h | h) | h | h <;> simp [h]⟩
theorem or4b {A B C D : Prop} : A ∨ B ∨ C ∨ D ↔ (C ∨ D) ∨ A ∨ B := ⟨fun h => by rcases h with h | h | h | h <;> simp [h], fun h => by rcases h with (h | h) | h | h <;> simp [h]⟩
theorem or4c {A B C D : Prop} : A ∨ B ∨ C ∨ D ↔ (A ∨ C) ∨ B ∨ D := ⟨fun h => by rcases h with h | h | h | h <;> simp [h], fun h => by rcases h with (h | h) | h | h <;> simp [h]⟩
theorem or4d {A B C D : Prop} : A ∨ B ∨ C ∨ D ↔ (B ∨ D) ∨ A ∨ C := ⟨fun h => by rcases h with h | h | h | h <;> simp [h], fun h => by rcases h with (h | h) | h | h <;> simp [h]⟩
theorem mem_kids {n s : Nat} {T : Tree} (hs : s < 4) (h : Full (n + 1) T) (x y : Int) (z : Int × Int) : z ∈ cellsT (n + 1) T x y ↔ z ∈ (cellsK n (nearK s).1 T x y ++ cellsK n (nearK s).2 T x y) ∨ z ∈ (cellsK n (farK s).1 T x y ++ cellsK n (farK s).2 T x y) := by
  match T, h with
  | .leaf _, h => exact h.elim
  | .node a b c d, _ =>
    rw [mem_four, List.mem_append, List.mem_append]
    unfold cellsK
    rcases (show s = 0 ∨ s = 1 ∨ s = 2 ∨ s = 3 by omega) with rfl | rfl | rfl | rfl
    · exact or4a
    · exact or4b
    · exact or4c
    · exact or4d
/-- edge is the least distance. -/
theorem edge_spec {s : Nat} (hs : s < 4) : ∀ {n : Nat} {T : Tree} (x y : Int), Full n T → emB T = false → (∀ z ∈ cellsT n T x y, (edgeT n s T : Int) ≤ distS s n x y z) ∧ ∃ z ∈ cellsT n T x y, distS s n x y z = edgeT n s T
  | 0, .node _ _ _ _, _, _, h, _ => h.elim
  | 0, .leaf b, x, y, h, he => by
    cases b with
    | false => exact absurd he (by decide)
    | true =>
      have hm : ∀ z, z ∈ cellsT 0 (.leaf true) x y → z = (x, y) := fun z hz => by
        have hz : z ∈ [(x, y)] := hz
        simpa using hz
      have e : distS s 0 x y (x, y) = 0 := by unfold distS; split <;> simp <;> omega
      refine ⟨fun z hz => by rw [hm z hz, e]; exact Int.le_refl _, (x, y), ?_, e⟩
      show (x, y) ∈ [(x, y)]
      simp
  | n + 1, T, x, y, h, he => by
    have hq : ∀ (k add : Nat) (f : Int × Int → Int), (∀ z, f z = add + distS s n (if k = 1 ∨ k = 3 then x + 2 ^ n else x) (if k = 2 ∨ k = 3 then y + 2 ^ n else y) z) → (emB (kidT k T) = true → cellsK n k T x y = []) ∧
        (emB (kidT k T) = false → (∀ z ∈ cellsK n k T x y, (add : Int) + edgeT n s (kidT k T) ≤ f z) ∧ ∃ z ∈ cellsK n k T x y, f z = (add : Int) + edgeT n s (kidT k T)) := fun k add f hf => by
      refine ⟨fun e => cells_empty (full_kid h k) e _ _, fun e => ?_⟩
      obtain ⟨g1, z, g2, g3⟩ := edge_spec hs (if k = 1 ∨ k = 3 then x + 2 ^ n else x) (if k = 2 ∨ k = 3 then y + 2 ^ n else y) (full_kid h k) e
      refine ⟨fun z hz => ?_, z, g2, ?_⟩
      · have := g1 z hz
        rw [hf]; omega
      · rw [hf, g3]
    have n1 := hq (nearK s).1 0 (distS s (n + 1) x y) (fun z => by rw [dist_near hs x y z (.inl rfl)]; simp)
    have n2 := hq (nearK s).2 0 (distS s (n + 1) x y) (fun z => by rw [dist_near hs x y z (.inr rfl)]; simp)
    have hp : ((2 ^ n : Nat) : Int) = 2 ^ n := by rw [Int.natCast_pow]; rfl
    have f1 := hq (farK s).1 (2 ^ n) (distS s (n + 1) x y) (fun z => by rw [dist_far hs x y z (.inl rfl), hp])
    have f2 := hq (farK s).2 (2 ^ n) (distS s (n + 1) x y) (fun z => by rw [dist_far hs x y z (.inr rfl), hp])
    have h0 : IsMin [] (distS s (n + 1) x y) none := ⟨fun _ => rfl, fun m hm => by cases hm⟩
    have hn := (h0.look n1.1 n1.2).look n2.1 n2.2
    have hfar := (h0.look f1.1 f1.2).look f2.1 f2.2
    rw [List.nil_append] at hn hfar
    have hmem := mem_kids hs h x y
    unfold edgeT
    cases hr : lookT (edgeT n s) 0 (kidT (nearK s).2 T) (lookT (edgeT n s) 0 (kidT (nearK s).1 T) none) with
    | some m =>
      rw [hr] at hn
      obtain ⟨g1, z, g2, g3⟩ := hn.2 m rfl
      refine ⟨fun z' hz' => ?_, z, (hmem z).2 (.inl g2), g3⟩
      rcases (hmem z').1 hz' with h1 | h1
      · exact g1 z' h1
      · have hz1 : distS s (n + 1) x y z < 2 ^ n := by
          rcases List.mem_append.1 g2 with h2 | h2
          · rw [dist_near hs x y z (.inl rfl)]; exact (dist_lt h2).2
          · rw [dist_near hs x y z (.inr rfl)]; exact (dist_lt h2).2
        have hz2 : 2 ^ n ≤ distS s (n + 1) x y z' := by
          rcases List.mem_append.1 h1 with h2 | h2
          · rw [dist_far hs x y z' (.inl rfl)]; have := (dist_lt (s := s) h2).1; omega
          · rw [dist_far hs x y z' (.inr rfl)]; have := (dist_lt (s := s) h2).1; omega
        show (m : Int) ≤ _
        omega
    | none =>
      rw [hr] at hn
      have hn0 := hn.1 rfl
      cases hf : lookT (edgeT n s) (2 ^ n) (kidT (farK s).2 T) (lookT (edgeT n s) (2 ^ n) (kidT (farK s).1 T) none) with
      | none =>
        rw [hf] at hfar
        exfalso
        have : cellsT (n + 1) T x y = [] := List.eq_nil_iff_forall_not_mem.2 fun z hz => by
          rcases (hmem z).1 hz with h1 | h1
          · rw [hn0] at h1; cases h1
          · rw [hfar.1 rfl] at h1; cases h1
        exact cells_some h he x y this
      | some m =>
        rw [hf] at hfar
        obtain ⟨g1, z, g2, g3⟩ := hfar.2 m rfl
        refine ⟨fun z' hz' => ?_, z, (hmem z).2 (.inr g2), g3⟩
        rcases (hmem z').1 hz' with h1 | h1
        · rw [hn0] at h1; cases h1
        · exact g1 z' h1
theorem edge_lt {s n : Nat} {T : Tree} (hs : s < 4) (h : Full n T) (he : emB T = false) : edgeT n s T < 2 ^ n := by
  obtain ⟨_, z, h1, h2⟩ := edge_spec hs 0 0 h he
  have h3 := (dist_lt (s := s) h1).2
  rw [h2] at h3
  have hp : ((2 ^ n : Nat) : Int) = 2 ^ n := by rw [Int.natCast_pow]; rfl
  omega
end Go.Proofs.Ytdmamecfmfhlmaa
