/-
  A cell of a tree put alive or dead; the middle of a tree whose rim is empty: plain.
-/
import Derived.Test.YtdmamecfmfhlmaaZQuadPuts37
import Derived.Test.YtdmamecfmfhlmaaZQuadPutsQWEmpty
namespace Go.Proofs.Ytdmamecfmfhlmaa
set_option maxRecDepth 100000

/-- The tree with the cell at x, y from its corner alive or dead. -/
def putT : Nat → Int → Int → Bool → Tree → Tree
  | 0, _, _, al, _ => .leaf al
  | n + 1, x, y, al, .node a b c d =>
    if 2 ^ n ≤ x then (if 2 ^ n ≤ y then .node a b c (putT n (x - 2 ^ n) (y - 2 ^ n) al d) else .node a (putT n (x - 2 ^ n) y al b) c d)
    else (if 2 ^ n ≤ y then .node a b (putT n x (y - 2 ^ n) al c) d else .node (putT n x y al a) b c d)
  | _ + 1, _, _, _, .leaf b => .leaf b
theorem full_put : ∀ {n : Nat} {T : Tree} {x y : Int} {al : Bool}, Full n T → Full n (putT n x y al T)
  | 0, _, _, _, _, _ => trivial
  | _ + 1, .leaf _, _, _, _, h => h.elim
  | n + 1, .node a b c d, x, y, al, h => by
    obtain ⟨ha, hb, hc, hd⟩ := h
    unfold putT
    split <;> split
    · exact ⟨ha, hb, hc, full_put hd⟩
    · exact ⟨ha, full_put hb, hc, hd⟩
    · exact ⟨ha, hb, full_put hc, hd⟩
    · exact ⟨full_put ha, hb, hc, hd⟩
theorem cnt_put : ∀ {n : Nat} {T : Tree} {x y : Int} {al : Bool}, Full n T → cnt (putT n x y al T) ≤ cnt T + 1
  | 0, .leaf b, _, _, al, _ => by
    show (if al then 1 else 0) ≤ (if b then 1 else 0) + 1
    split <;> omega
  | 0, .node _ _ _ _, _, _, _, h => h.elim
  | _ + 1, .leaf _, _, _, _, h => h.elim
  | n + 1, .node a b c d, x, y, al, h => by
    obtain ⟨ha, hb, hc, hd⟩ := h
    unfold putT
    split <;> split
    · have := cnt_put (x := x - 2 ^ n) (y := y - 2 ^ n) (al := al) hd
      show cnt a + cnt b + cnt c + cnt _ ≤ cnt a + cnt b + cnt c + cnt d + 1
      omega
    · have := cnt_put (x := x - 2 ^ n) (y := y) (al := al) hb
      show cnt a + cnt _ + cnt c + cnt d ≤ cnt a + cnt b + cnt c + cnt d + 1
      omega
    · have := cnt_put (x := x) (y := y - 2 ^ n) (al := al) hc
      show cnt a + cnt b + cnt _ + cnt d ≤ cnt a + cnt b + cnt c + cnt d + 1
      omega
    · have := cnt_put (x := x) (y := y) (al := al) ha
      show cnt _ + cnt b + cnt c + cnt d ≤ cnt a + cnt b + cnt c + cnt d + 1
      omega
theorem mem_four {n : Nat} {a b c d : Tree} {x y : Int} {z : Int × Int} : z ∈ cellsT (n + 1) (.node a b c d) x y ↔ z ∈ cellsT n a x y ∨ z ∈ cellsT n b (x + 2 ^ n) y ∨ z ∈ cellsT n c x (y + 2 ^ n) ∨ z ∈ cellsT n d (x + 2 ^ n) (y + 2 ^ n) := by
  show z ∈ cellsT n a x y ++ (cellsT n b (x + 2 ^ n) y ++ (cellsT n c x (y + 2 ^ n) ++ cellsT n d (x + 2 ^ n) (y + 2 ^ n))) ↔ _
  rw [List.mem_append, List.mem_append, List.mem_append]
/-- Just that cell is alive or dead. -/
theorem mem_put : ∀ {n : Nat} {T : Tree} {x y : Int} {al : Bool}, Full n T → 0 ≤ x → x < 2 ^ n → 0 ≤ y → y < 2 ^ n → ∀ (X Y : Int) (z : Int × Int),
    z ∈ cellsT n (putT n x y al T) X Y ↔ (z = (X + x, Y + y) ∧ al = true) ∨ (z ≠ (X + x, Y + y) ∧ z ∈ cellsT n T X Y)
  | 0, .node _ _ _ _, _, _, _, h, _, _, _, _, _, _, _ => h.elim
  | 0, .leaf b, x, y, al, _, h1, h2, h3, h4, X, Y, z => by
    have e : (2 : Int) ^ 0 = 1 := rfl
    rw [e] at h2 h4
    obtain rfl : x = 0 := by omega
    obtain rfl : y = 0 := by omega
    rw [Int.add_zero, Int.add_zero]
    show z ∈ (if al then [(X, Y)] else []) ↔ _ ∨ (_ ∧ z ∈ (if b then [(X, Y)] else []))
    cases al <;> cases b <;> simp
  | _ + 1, .leaf _, _, _, _, h, _, _, _, _, _, _, _ => h.elim
  | n + 1, .node a b c d, x, y, al, h, h1, h2, h3, h4, X, Y, z => by
    obtain ⟨ha, hb, hc, hd⟩ := h
    have e : (2 : Int) ^ (n + 1) = 2 ^ n + 2 ^ n := by rw [Int.pow_succ]; omega
    have hp : (0 : Int) < 2 ^ n := Int.pow_pos (by omega)
    rw [e] at h2 h4
    have na : z ∈ cellsT n a X Y → _ := fun h => cellsT_in h
    have nb : z ∈ cellsT n b (X + 2 ^ n) Y → _ := fun h => cellsT_in h
    have nc : z ∈ cellsT n c X (Y + 2 ^ n) → _ := fun h => cellsT_in h
    have nd : z ∈ cellsT n d (X + 2 ^ n) (Y + 2 ^ n) → _ := fun h => cellsT_in h
    have ne : ∀ u v : Int, (z.1 ≠ u ∨ z.2 ≠ v) → z ≠ (u, v) := fun u v h e => by rw [e] at h; simp at h
    unfold putT
    rw [mem_four]
    split <;> split
    · next q1 q2 =>
      rw [mem_four, mem_put hd (by omega) (by omega) (by omega) (by omega), show X + 2 ^ n + (x - 2 ^ n) = X + x by omega, show Y + 2 ^ n + (y - 2 ^ n) = Y + y by omega]
      constructor
      · rintro (h | h | h | h | h)
        · exact .inr ⟨ne _ _ (by have := na h; omega), .inl h⟩
        · exact .inr ⟨ne _ _ (by have := nb h; omega), .inr (.inl h)⟩
        · exact .inr ⟨ne _ _ (by have := nc h; omega), .inr (.inr (.inl h))⟩
        · exact .inl h
        · exact .inr ⟨h.1, .inr (.inr (.inr h.2))⟩
      · rintro (h | ⟨h0, h | h | h | h⟩)
        · exact .inr (.inr (.inr (.inl h)))
        · exact .inl h
        · exact .inr (.inl h)
        · exact .inr (.inr (.inl h))
        · exact .inr (.inr (.inr (.inr ⟨h0, h⟩)))
    · next q1 q2 =>
      rw [mem_four, mem_put hb (by omega) (by omega) (by omega) (by omega), show X + 2 ^ n + (x - 2 ^ n) = X + x by omega]
      constructor
      · rintro (h | (h | h) | h | h)
        · exact .inr ⟨ne _ _ (by have := na h; omega), .inl h⟩
        · exact .inl h
        · exact .inr ⟨h.1, .inr (.inl h.2)⟩
        · exact .inr ⟨ne _ _ (by have := nc h; omega), .inr (.inr (.inl h))⟩
        · exact .inr ⟨ne _ _ (by have := nd h; omega), .inr (.inr (.inr h))⟩
      · rintro (h | ⟨h0, h | h | h | h⟩)
        · exact .inr (.inl (.inl h))
        · exact .inl h
        · exact .inr (.inl (.inr ⟨h0, h⟩))
        · exact .inr (.inr (.inl h))
        · exact .inr (.inr (.inr h))
    · next q1 q2 =>
      rw [mem_four, mem_put hc (by omega) (by omega) (by omega) (by omega), show Y + 2 ^ n + (y - 2 ^ n) = Y + y by omega]
      constructor
      · rintro (h | h | (h | h) | h)
        · exact .inr ⟨ne _ _ (by have := na h; omega), .inl h⟩
        · exact .inr ⟨ne _ _ (by have := nb h; omega), .inr (.inl h)⟩
        · exact .inl h
        · exact .inr ⟨h.1, .inr (.inr (.inl h.2))⟩
        · exact .inr ⟨ne _ _ (by have := nd h; omega), .inr (.inr (.inr h))⟩
      · rintro (h | ⟨h0, h | h | h | h⟩)
        · exact .inr (.inr (.inl (.inl h)))
        · exact .inl h
        · exact .inr (.inl h)
        · exact .inr (.inr (.inl (.inr ⟨h0, h⟩)))
        · exact .inr (.inr (.inr h))
    · next q1 q2 =>
      rw [mem_four, mem_put ha (by omega) (by omega) (by omega) (by omega)]
      constructor
      · rintro ((h | h) | h | h | h)
        · exact .inl h
        · exact .inr ⟨h.1, .inl h.2⟩
        · exact .inr ⟨ne _ _ (by have := nb h; omega), .inr (.inl h)⟩
        · exact .inr ⟨ne _ _ (by have := nc h; omega), .inr (.inr (.inl h))⟩
        · exact .inr ⟨ne _ _ (by have := nd h; omega), .inr (.inr (.inr h))⟩
      · rintro (h | ⟨h0, h | h | h | h⟩)
        · exact .inl (.inl h)
        · exact .inl (.inr ⟨h0, h⟩)
        · exact .inr (.inl h)
        · exact .inr (.inr (.inl h))
        · exact .inr (.inr (.inr h))
/-! ### The middle -/
theorem emB_eq {n : Nat} {T : Tree} (h : Full n T) : emB T = true ↔ T = emptyT n := by
  unfold emB
  rw [decide_eq_true_eq]
  exact cnt_zero h
theorem emB_empty (n : Nat) : emB (emptyT n) = true := (emB_eq (full_empty n)).2 rfl
def innerT : Tree → Tree
  | .node (.node _ _ _ a) (.node _ _ b _) (.node _ c _ _) (.node d _ _ _) => .node a b c d
  | T => T
def fitsT : Tree → Bool
  | .node (.node a0 a1 a2 _) (.node b0 b1 _ b3) (.node c0 _ c2 c3) (.node _ d1 d2 d3) => emB a0 && emB a1 && emB a2 && (emB b0 && emB b1 && emB b3) && (emB c0 && emB c2 && emB c3) && (emB d1 && emB d2 && emB d3)
  | _ => false
theorem fits_wrap {n : Nat} {T : Tree} (h : Full (n + 2) T) (hf : fitsT T = true) : ∃ a b c d, T = wrapT n a b c d ∧ innerT T = .node a b c d ∧ Full n a ∧ Full n b ∧ Full n c ∧ Full n d := by
  match T, h with
  | .node (.node a0 a1 a2 a3) (.node b0 b1 b2 b3) (.node c0 c1 c2 c3) (.node d0 d1 d2 d3), h =>
    obtain ⟨⟨fa0, fa1, fa2, fa3⟩, ⟨fb0, fb1, fb2, fb3⟩, ⟨fc0, fc1, fc2, fc3⟩, fd0, fd1, fd2, fd3⟩ := h
    have hf : (emB a0 && emB a1 && emB a2 && (emB b0 && emB b1 && emB b3) && (emB c0 && emB c2 && emB c3) && (emB d1 && emB d2 && emB d3)) = true := hf
    simp only [Bool.and_eq_true] at hf
    obtain ⟨⟨⟨⟨⟨h1, h2⟩, h3⟩, ⟨h4, h5⟩, h6⟩, ⟨h7, h8⟩, h9⟩, ⟨h10, h11⟩, h12⟩ := hf
    rw [(emB_eq fa0).1 h1, (emB_eq fa1).1 h2, (emB_eq fa2).1 h3, (emB_eq fb0).1 h4, (emB_eq fb1).1 h5, (emB_eq fb3).1 h6, (emB_eq fc0).1 h7, (emB_eq fc2).1 h8, (emB_eq fc3).1 h9, (emB_eq fd1).1 h10, (emB_eq fd2).1 h11, (emB_eq fd3).1 h12]
    exact ⟨a3, b2, c1, d0, rfl, rfl, fa3, fb2, fc1, fd0⟩
  | .node (.leaf _) _ _ _, h => exact h.1.elim
  | .node (.node _ _ _ _) (.leaf _) _ _, h => exact h.2.1.elim
  | .node (.node _ _ _ _) (.node _ _ _ _) (.leaf _) _, h => exact h.2.2.1.elim
  | .node (.node _ _ _ _) (.node _ _ _ _) (.node _ _ _ _) (.leaf _), h => exact h.2.2.2.elim
theorem wrap_fits (n : Nat) (a b c d : Tree) : fitsT (wrapT n a b c d) = true ∧ innerT (wrapT n a b c d) = .node a b c d := by
  refine ⟨?_, rfl⟩
  show (emB (emptyT n) && emB (emptyT n) && emB (emptyT n) && (emB (emptyT n) && emB (emptyT n) && emB (emptyT n)) && (emB (emptyT n) && emB (emptyT n) && emB (emptyT n)) && (emB (emptyT n) && emB (emptyT n) && emB (emptyT n))) = true
  rw [emB_empty]; rfl
/-- The least square from level 2 on: its level. -/
def peelL : Nat → Tree → Nat
  | n + 3, T => if fitsT T then peelL (n + 2) (innerT T) else n + 3
  | n, _ => n
def peelT : Nat → Tree → Tree
  | n + 3, T => if fitsT T then peelT (n + 2) (innerT T) else T
  | _, T => T
theorem full_inner {n : Nat} {T : Tree} (h : Full (n + 2) T) (hf : fitsT T = true) : Full (n + 1) (innerT T) := by
  obtain ⟨a, b, c, d, _, e, ha, hb, hc, hd⟩ := fits_wrap h hf
  rw [e]; exact ⟨ha, hb, hc, hd⟩
/-- The peeled tree has the same cells. -/
theorem peel_cells : ∀ (n : Nat) (T : Tree), Full (n + 2) T → Full (peelL (n + 2) T) (peelT (n + 2) T) ∧ 2 ≤ peelL (n + 2) T ∧ peelL (n + 2) T ≤ n + 2 ∧
    cellsT (n + 2) T (-(2 ^ (n + 1))) (-(2 ^ (n + 1))) = cellsT (peelL (n + 2) T) (peelT (n + 2) T) (-(2 ^ (peelL (n + 2) T - 1))) (-(2 ^ (peelL (n + 2) T - 1)))
  | 0, T, h => ⟨h, Nat.le_refl _, Nat.le_refl _, rfl⟩
  | n + 1, T, h => by
    unfold peelL peelT
    split
    · next hf =>
      obtain ⟨h1, h2, h3, h4⟩ := peel_cells n (innerT T) (full_inner h hf)
      refine ⟨h1, h2, by omega, ?_⟩
      rw [← h4]
      obtain ⟨a, b, c, d, e1, e2, _⟩ := fits_wrap (n := n + 1) h hf
      rw [e2, e1]
      rw [show n + 1 + 2 = (n + 1) + 2 from rfl, cellsT_wrap]
      have e : (2 : Int) ^ (n + 1 + 1) = 2 ^ (n + 1) + 2 ^ (n + 1) := by rw [Int.pow_succ]; omega
      rw [e, show -((2 : Int) ^ (n + 1) + 2 ^ (n + 1)) + 2 ^ (n + 1) = -(2 ^ (n + 1)) by omega]
    · exact ⟨h, by omega, Nat.le_refl _, rfl⟩
end Go.Proofs.Ytdmamecfmfhlmaa
