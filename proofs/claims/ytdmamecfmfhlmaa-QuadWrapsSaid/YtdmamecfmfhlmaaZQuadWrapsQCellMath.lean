/-
  The live cells of a tree: plain.
-/
import Derived.Test.YtdmamecfmfhlmaaZQuadWrapsQParts
import Derived.Test.YtdmamecfmfhlmaaZQuadWrapsQCount
import Derived.Test.YtdmamecfmfhlmaaZQuadWrapsQWrap
namespace Go.Proofs.Ytdmamecfmfhlmaa
set_option maxRecDepth 100000

/-- A tree of a level. -/
def Full : Nat → Tree → Prop
  | 0, .leaf _ => True
  | n + 1, .node a b c d => Full n a ∧ Full n b ∧ Full n c ∧ Full n d
  | 0, .node _ _ _ _ => False
  | _ + 1, .leaf _ => False
theorem Den.full {L : List (Option Ent)} {t : Nat} : ∀ {n : Nat} {T : Tree} {id : Int}, Den L t n T id → Full n T
  | 0, .leaf _, _, _ => trivial
  | 0, .node _ _ _ _, _, h => h.elim
  | _ + 1, .leaf _, _, h => h.elim
  | _ + 1, .node _ _ _ _, _, h => by
    obtain ⟨_, x, _, _, _, _, a, b, c, d⟩ := h
    exact ⟨a.full, b.full, c.full, d.full⟩
theorem full_empty : ∀ n, Full n (emptyT n)
  | 0 => trivial
  | n + 1 => ⟨full_empty n, full_empty n, full_empty n, full_empty n⟩
theorem full_build : ∀ (n : Nat) (x y : Int) (l : CellL), Full n (buildT n x y l)
  | 0, _, _, _ => trivial
  | n + 1, x, y, l => by
    unfold buildT
    split
    · exact full_empty _
    · exact ⟨full_build n _ _ _, full_build n _ _ _, full_build n _ _ _, full_build n _ _ _⟩
/-- The live cells of a tree whose north-west corner is at x, y. -/
def cellsT : Nat → Tree → Int → Int → CellL
  | 0, .leaf b, x, y => if b then [(x, y)] else []
  | n + 1, .node a b c d, x, y => cellsT n a x y ++ (cellsT n b (x + 2 ^ n) y ++ (cellsT n c x (y + 2 ^ n) ++ cellsT n d (x + 2 ^ n) (y + 2 ^ n)))
  | 0, .node _ _ _ _, _, _ => []
  | _ + 1, .leaf _, _, _ => []
theorem cellsT_len : ∀ {n : Nat} {T : Tree} (x y : Int), Full n T → (cellsT n T x y).length = cnt T
  | 0, .leaf b, x, y, _ => by cases b <;> rfl
  | 0, .node _ _ _ _, _, _, h => h.elim
  | _ + 1, .leaf _, _, _, h => h.elim
  | n + 1, .node a b c d, x, y, h => by
    obtain ⟨ha, hb, hc, hd⟩ := h
    show (cellsT n a x y ++ (cellsT n b (x + 2 ^ n) y ++ (cellsT n c x (y + 2 ^ n) ++ cellsT n d (x + 2 ^ n) (y + 2 ^ n)))).length = cnt a + cnt b + cnt c + cnt d
    rw [List.length_append, List.length_append, List.length_append, cellsT_len _ _ ha, cellsT_len _ _ hb, cellsT_len _ _ hc, cellsT_len _ _ hd]
    omega
theorem cellsT_empty : ∀ (n : Nat) (x y : Int), cellsT n (emptyT n) x y = []
  | 0, _, _ => rfl
  | n + 1, x, y => by
    show cellsT n (emptyT n) x y ++ (cellsT n (emptyT n) (x + 2 ^ n) y ++ (cellsT n (emptyT n) x (y + 2 ^ n) ++ cellsT n (emptyT n) (x + 2 ^ n) (y + 2 ^ n))) = []
    simp only [cellsT_empty n]; rfl
theorem cnt_zero : ∀ {n : Nat} {T : Tree}, Full n T → (cnt T = 0 ↔ T = emptyT n)
  | 0, .leaf b, _ => by cases b <;> simp [cnt, emptyT]
  | 0, .node _ _ _ _, h => h.elim
  | _ + 1, .leaf _, h => h.elim
  | n + 1, .node a b c d, h => by
    obtain ⟨ha, hb, hc, hd⟩ := h
    have h1 := cnt_zero ha
    have h2 := cnt_zero hb
    have h3 := cnt_zero hc
    have h4 := cnt_zero hd
    show cnt a + cnt b + cnt c + cnt d = 0 ↔ Tree.node a b c d = .node (emptyT n) (emptyT n) (emptyT n) (emptyT n)
    rw [Tree.node.injEq, ← h1, ← h2, ← h3, ← h4]
    omega
/-- All cells of a tree lie in its square. -/
theorem cellsT_in : ∀ {n : Nat} {T : Tree} {x y : Int} {z : Int × Int}, z ∈ cellsT n T x y → x ≤ z.1 ∧ z.1 < x + 2 ^ n ∧ y ≤ z.2 ∧ z.2 < y + 2 ^ n
  | 0, .leaf b, x, y, z, h => by
    cases b with
    | false => cases h
    | true =>
      have h : z ∈ [(x, y)] := h
      rw [List.mem_singleton] at h
      subst h
      exact ⟨Int.le_refl _, by show x < x + 1; omega, Int.le_refl _, by show y < y + 1; omega⟩
  | 0, .node _ _ _ _, _, _, _, h => by cases h
  | _ + 1, .leaf _, _, _, _, h => by cases h
  | n + 1, .node a b c d, x, y, z, h => by
    have h : z ∈ cellsT n a x y ++ (cellsT n b (x + 2 ^ n) y ++ (cellsT n c x (y + 2 ^ n) ++ cellsT n d (x + 2 ^ n) (y + 2 ^ n))) := h
    rw [List.mem_append, List.mem_append, List.mem_append] at h
    have hp : (0 : Int) < 2 ^ n := Int.pow_pos (by omega)
    have e : (2 : Int) ^ (n + 1) = 2 ^ n + 2 ^ n := by rw [Int.pow_succ]; omega
    rw [e]
    rcases h with h | h | h | h
    · have := cellsT_in h; omega
    · have := cellsT_in h; omega
    · have := cellsT_in h; omega
    · have := cellsT_in h; omega
/-- What was built has just the cells of the list. -/
theorem mem_build : ∀ {n : Nat} {x y : Int} {l : CellL} {z : Int × Int}, (∀ c ∈ l, x ≤ c.1 ∧ c.1 < x + 2 ^ n ∧ y ≤ c.2 ∧ c.2 < y + 2 ^ n) → (z ∈ cellsT n (buildT n x y l) x y ↔ z ∈ l)
  | 0, x, y, l, z, h => by
    have h' : ∀ c ∈ l, c = (x, y) := fun c hc => by
      obtain ⟨h1, h2, h3, h4⟩ := h c hc
      have e : (2 : Int) ^ 0 = 1 := rfl
      rw [e] at h2 h4
      exact Prod.ext (by show c.1 = x; omega) (by show c.2 = y; omega)
    cases l with
    | nil => exact Iff.rfl
    | cons c l =>
      show z ∈ [(x, y)] ↔ _
      rw [List.mem_singleton]
      constructor
      · rintro rfl
        rw [← h' c (List.mem_cons_self ..)]
        exact List.mem_cons_self ..
      · exact h' z
  | n + 1, x, y, l, z, h => by
    have e : (2 : Int) ^ (n + 1) = 2 ^ n + 2 ^ n := by rw [Int.pow_succ]; omega
    rw [e] at h
    unfold buildT
    split
    · next hl =>
      rw [cellsT_empty]
      have : l = [] := List.isEmpty_iff.1 hl
      rw [this]
    · have q : ∀ k (c : Int × Int), c ∈ partOf (x + 2 ^ n) (y + 2 ^ n) k l ↔ c ∈ l ∧ quadOf (x + 2 ^ n) (y + 2 ^ n) c = k := fun k c => by
        unfold partOf
        rw [List.mem_filter, decide_eq_true_eq]
      have i0 := fun c (hc : c ∈ partOf (x + 2 ^ n) (y + 2 ^ n) 0 l) => (by
        obtain ⟨h1, h2⟩ := (q 0 c).1 hc
        have := h c h1
        unfold quadOf at h2
        split at h2 <;> split at h2 <;> omega : x ≤ c.1 ∧ c.1 < x + 2 ^ n ∧ y ≤ c.2 ∧ c.2 < y + 2 ^ n)
      have i1 := fun c (hc : c ∈ partOf (x + 2 ^ n) (y + 2 ^ n) 1 l) => (by
        obtain ⟨h1, h2⟩ := (q 1 c).1 hc
        have := h c h1
        unfold quadOf at h2
        split at h2 <;> split at h2 <;> omega : x + 2 ^ n ≤ c.1 ∧ c.1 < x + 2 ^ n + 2 ^ n ∧ y ≤ c.2 ∧ c.2 < y + 2 ^ n)
      have i2 := fun c (hc : c ∈ partOf (x + 2 ^ n) (y + 2 ^ n) 2 l) => (by
        obtain ⟨h1, h2⟩ := (q 2 c).1 hc
        have := h c h1
        unfold quadOf at h2
        split at h2 <;> split at h2 <;> omega : x ≤ c.1 ∧ c.1 < x + 2 ^ n ∧ y + 2 ^ n ≤ c.2 ∧ c.2 < y + 2 ^ n + 2 ^ n)
      have i3 := fun c (hc : c ∈ partOf (x + 2 ^ n) (y + 2 ^ n) 3 l) => (by
        obtain ⟨h1, h2⟩ := (q 3 c).1 hc
        have := h c h1
        unfold quadOf at h2
        split at h2 <;> split at h2 <;> omega : x + 2 ^ n ≤ c.1 ∧ c.1 < x + 2 ^ n + 2 ^ n ∧ y + 2 ^ n ≤ c.2 ∧ c.2 < y + 2 ^ n + 2 ^ n)
      show z ∈ _ ++ (_ ++ (_ ++ _)) ↔ _
      rw [List.mem_append, List.mem_append, List.mem_append, mem_build i0, mem_build i1, mem_build i2, mem_build i3, q, q, q, q]
      have h4 := quadOf_lt (x + 2 ^ n) (y + 2 ^ n) z
      constructor
      · rintro (h | h | h | h) <;> exact h.1
      · intro hz
        rcases (show quadOf (x + 2 ^ n) (y + 2 ^ n) z = 0 ∨ quadOf (x + 2 ^ n) (y + 2 ^ n) z = 1 ∨ quadOf (x + 2 ^ n) (y + 2 ^ n) z = 2 ∨ quadOf (x + 2 ^ n) (y + 2 ^ n) z = 3 by omega) with e | e | e | e
        · exact .inl ⟨hz, e⟩
        · exact .inr (.inl ⟨hz, e⟩)
        · exact .inr (.inr (.inl ⟨hz, e⟩))
        · exact .inr (.inr (.inr ⟨hz, e⟩))
/-- A tree in the middle of a greater one has the same cells. -/
theorem cellsT_wrap {n : Nat} {a b c d : Tree} {x y : Int} : cellsT (n + 2) (wrapT n a b c d) x y = cellsT (n + 1) (.node a b c d) (x + 2 ^ n) (y + 2 ^ n) := by
  have e : (2 : Int) ^ (n + 1) = 2 ^ n + 2 ^ n := by rw [Int.pow_succ]; omega
  unfold wrapT
  simp only [cellsT, cellsT_empty, List.nil_append, List.append_nil]
  rw [e]
  have e1 : x + (2 ^ n + 2 ^ n) = x + 2 ^ n + 2 ^ n := by omega
  have e2 : y + (2 ^ n + 2 ^ n) = y + 2 ^ n + 2 ^ n := by omega
  rw [e1, e2]
end Go.Proofs.Ytdmamecfmfhlmaa
