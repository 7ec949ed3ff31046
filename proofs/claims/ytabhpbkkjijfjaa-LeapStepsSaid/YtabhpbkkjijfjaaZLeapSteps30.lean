/-
  A cell of a tree put alive or dead; the middle of a tree whose rim is empty: plain; For all rules, states and numbers, rule.Lives answers what the document's Lives answers; no condition; Steps of life over the plane, and over trees: a square's middle some steps later: plain.
-/
import Derived.Test.YtabhpbkkjijfjaaZLeapSteps28
import Derived.Test.YtabhpbkkjijfjaaZLeapStepsQWEmpty
import Derived.Test.YtabhpbkkjijfjaaZLeapSteps1
namespace Go.Proofs.Ytabhpbkkjijfjaa
set_option maxRecDepth 100000

/-- The tree with the cell at x, y from its corner alive or dead. -/
def putT : Nat → Int → Int → Bool → Tree → Tree
  | 0, _, _, al, _ => .leaf al
  | n + 1, x, y, al, .node a b c d =>
    if 2 ^ n ≤ x then (if 2 ^ n ≤ y then .node a b c (putT n (x - 2 ^ n) (y - 2 ^ n) al d) else .node a (putT n (x - 2 ^ n) y al b) c d)
    else (if 2 ^ n ≤ y then .node a b (putT n x (y - 2 ^ n) al c) d else .node (putT n x y al a) b c d)
  | _ + 1, _, _, _, .leaf b => .leaf b
theorem full_put : ∀ {n : Nat} {T : Tree} {x y : Int} {al : Bool}, Full n T → Full n (putT n x y al T)
  | 0, _, _, _, _, _ => trivial
  | _ + 1, .leaf _, _, _, _, h => h.elim
  | n + 1, .node a b c d, x, y, al, h => by
    obtain ⟨ha, hb, hc, hd⟩ := h
    unfold putT
    split <;> split
    · exact ⟨ha, hb, hc, full_put hd⟩
    · exact ⟨ha, full_put hb, hc, hd⟩
    · exact ⟨ha, hb, full_put hc, hd⟩
    · exact ⟨full_put ha, hb, hc, hd⟩
theorem cnt_put : ∀ {n : Nat} {T : Tree} {x y : Int} {al : Bool}, Full n T → cnt (putT n x y al T) ≤ cnt T + 1
  | 0, .leaf b, _, _, al, _ => by
    show (if al then 1 else 0) ≤ (if b then 1 else 0) + 1
    split <;> omega
  | 0, .node _ _ _ _, _, _, _, h => h.elim
  | _ + 1, .leaf _, _, _, _, h => h.elim
  | n + 1, .node a b c d, x, y, al, h => by
    obtain ⟨ha, hb, hc, hd⟩ := h
    unfold putT
    split <;> split
    · have := cnt_put (x := x - 2 ^ n) (y := y - 2 ^ n) (al := al) hd
      show cnt a + cnt b + cnt c + cnt _ ≤ cnt a + cnt b + cnt c + cnt d + 1
      omega
    · have := cnt_put (x := x - 2 ^ n) (y := y) (al := al) hb
      show cnt a + cnt _ + cnt c + cnt d ≤ cnt a + cnt b + cnt c + cnt d + 1
      omega
    · have := cnt_put (x := x) (y := y - 2 ^ n) (al := al) hc
      show cnt a + cnt b + cnt _ + cnt d ≤ cnt a + cnt b + cnt c + cnt d + 1
      omega
    · have := cnt_put (x := x) (y := y) (al := al) ha
      show cnt _ + cnt b + cnt c + cnt d ≤ cnt a + cnt b + cnt c + cnt d + 1
      omega
theorem mem_four {n : Nat} {a b c d : Tree} {x y : Int} {z : Int × Int} : z ∈ cellsT (n + 1) (.node a b c d) x y ↔ z ∈ cellsT n a x y ∨ z ∈ cellsT n b (x + 2 ^ n) y ∨ z ∈ cellsT n c x (y + 2 ^ n) ∨ z ∈ cellsT n d (x + 2 ^ n) (y + 2 ^ n) := by
  show z ∈ cellsT n a x y ++ (cellsT n b (x + 2 ^ n) y ++ (cellsT n c x (y + 2 ^ n) ++ cellsT n d (x + 2 ^ n) (y + 2 ^ n))) ↔ _
  rw [List.mem_append, List.mem_append, List.mem_append]
/-- Just that cell is alive or dead. -/
theorem mem_put : ∀ {n : Nat} {T : Tree} {x y : Int} {al : Bool}, Full n T → 0 ≤ x → x < 2 ^ n → 0 ≤ y → y < 2 ^ n → ∀ (X Y : Int) (z : Int × Int),
    z ∈ cellsT n (putT n x y al T) X Y ↔ (z = (X + x, Y + y) ∧ al = true) ∨ (z ≠ (X + x, Y + y) ∧ z ∈ cellsT n T X Y)
  | 0, .node _ _ _ _, _, _, _, h, _, _, _, _, _, _, _ => h.elim
  | 0, .leaf b, x, y, al, _, h1, h2, h3, h4, X, Y, z => by
    have e : (2 : Int) ^ 0 = 1 := rfl
    rw [e] at h2 h4
    obtain rfl : x = 0 := by omega
    obtain rfl : y = 0 := by omega
    rw [Int.add_zero, Int.add_zero]
    show z ∈ (if al then [(X, Y)] else []) ↔ _ ∨ (_ ∧ z ∈ (if b then [(X, Y)] else []))
    cases al <;> cases b <;> simp
  | _ + 1, .leaf _, _, _, _, h, _, _, _, _, _, _, _ => h.elim
  | n + 1, .node a b c d, x, y, al, h, h1, h2, h3, h4, X, Y, z => by
    obtain ⟨ha, hb, hc, hd⟩ := h
    have e : (2 : Int) ^ (n + 1) = 2 ^ n + 2 ^ n := by rw [Int.pow_succ]; omega
    have hp : (0 : Int) < 2 ^ n := Int.pow_pos (by omega)
    rw [e] at h2 h4
    have na : z ∈ cellsT n a X Y → _ := fun h => cellsT_in h
    have nb : z ∈ cellsT n b (X + 2 ^ n) Y → _ := fun h => cellsT_in h
    have nc : z ∈ cellsT n c X (Y + 2 ^ n) → _ := fun h => cellsT_in h
    have nd : z ∈ cellsT n d (X + 2 ^ n) (Y + 2 ^ n) → _ := fun h => cellsT_in h
    have ne : ∀ u v : Int, (z.1 ≠ u ∨ z.2 ≠ v) → z ≠ (u, v) := fun u v h e => by rw [e] at h; simp at h
    unfold putT
    rw [mem_four]
    split <;> split
    · next q1 q2 =>
      rw [mem_four, mem_put hd (by omega) (by omega) (by omega) (by omega), show X + 2 ^ n + (x - 2 ^ n) = X + x by omega, show Y + 2 ^ n + (y - 2 ^ n) = Y + y by omega]
      constructor
      · rintro (h | h | h | h | h)
        · exact .inr ⟨ne _ _ (by have := na h; omega), .inl h⟩
        · exact .inr ⟨ne _ _ (by have := nb h; omega), .inr (.inl h)⟩
        · exact .inr ⟨ne _ _ (by have := nc h; omega), .inr (.inr (.inl h))⟩
        · exact .inl h
        · exact .inr ⟨h.1, .inr (.inr (.inr h.2))⟩
      · rintro (h | ⟨h0, h | h | h | h⟩)
        · exact .inr (.inr (.inr (.inl h)))
        · exact .inl h
        · exact .inr (.inl h)
        · exact .inr (.inr (.inl h))
        · exact .inr (.inr (.inr (.inr ⟨h0, h⟩)))
    · next q1 q2 =>
      rw [mem_four, mem_put hb (by omega) (by omega) (by omega) (by omega), show X + 2 ^ n + (x - 2 ^ n) = X + x by omega]
      constructor
      · rintro (h | (h | h) | h | h)
        · exact .inr ⟨ne _ _ (by have := na h; omega), .inl h⟩
        · exact .inl h
        · exact .inr ⟨h.1, .inr (.inl h.2)⟩
        · exact .inr ⟨ne _ _ (by have := nc h; omega), .inr (.inr (.inl h))⟩
        · exact .inr ⟨ne _ _ (by have := nd h; omega), .inr (.inr (.inr h))⟩
      · rintro (h | ⟨h0, h | h | h | h⟩)
        · exact .inr (.inl (.inl h))
        · exact .inl h
        · exact .inr (.inl (.inr ⟨h0, h⟩))
        · exact .inr (.inr (.inl h))
        · exact .inr (.inr (.inr h))
    · next q1 q2 =>
      rw [mem_four, mem_put hc (by omega) (by omega) (by omega) (by omega), show Y + 2 ^ n + (y - 2 ^ n) = Y + y by omega]
      constructor
      · rintro (h | h | (h | h) | h)
        · exact .inr ⟨ne _ _ (by have := na h; omega), .inl h⟩
        · exact .inr ⟨ne _ _ (by have := nb h; omega), .inr (.inl h)⟩
        · exact .inl h
        · exact .inr ⟨h.1, .inr (.inr (.inl h.2))⟩
        · exact .inr ⟨ne _ _ (by have := nd h; omega), .inr (.inr (.inr h))⟩
      · rintro (h | ⟨h0, h | h | h | h⟩)
        · exact .inr (.inr (.inl (.inl h)))
        · exact .inl h
        · exact .inr (.inl h)
        · exact .inr (.inr (.inl (.inr ⟨h0, h⟩)))
        · exact .inr (.inr (.inr h))
    · next q1 q2 =>
      rw [mem_four, mem_put ha (by omega) (by omega) (by omega) (by omega)]
      constructor
      · rintro ((h | h) | h | h | h)
        · exact .inl h
        · exact .inr ⟨h.1, .inl h.2⟩
        · exact .inr ⟨ne _ _ (by have := nb h; omega), .inr (.inl h)⟩
        · exact .inr ⟨ne _ _ (by have := nc h; omega), .inr (.inr (.inl h))⟩
        · exact .inr ⟨ne _ _ (by have := nd h; omega), .inr (.inr (.inr h))⟩
      · rintro (h | ⟨h0, h | h | h | h⟩)
        · exact .inl (.inl h)
        · exact .inl (.inr ⟨h0, h⟩)
        · exact .inr (.inl h)
        · exact .inr (.inr (.inl h))
        · exact .inr (.inr (.inr h))
/-! ### The middle -/
theorem emB_eq {n : Nat} {T : Tree} (h : Full n T) : emB T = true ↔ T = emptyT n := by
  unfold emB
  rw [decide_eq_true_eq]
  exact cnt_zero h
theorem emB_empty (n : Nat) : emB (emptyT n) = true := (emB_eq (full_empty n)).2 rfl
def innerT : Tree → Tree
  | .node (.node _ _ _ a) (.node _ _ b _) (.node _ c _ _) (.node d _ _ _) => .node a b c d
  | T => T
def fitsT : Tree → Bool
  | .node (.node a0 a1 a2 _) (.node b0 b1 _ b3) (.node c0 _ c2 c3) (.node _ d1 d2 d3) => emB a0 && emB a1 && emB a2 && (emB b0 && emB b1 && emB b3) && (emB c0 && emB c2 && emB c3) && (emB d1 && emB d2 && emB d3)
  | _ => false
theorem fits_wrap {n : Nat} {T : Tree} (h : Full (n + 2) T) (hf : fitsT T = true) : ∃ a b c d, T = wrapT n a b c d ∧ innerT T = .node a b c d ∧ Full n a ∧ Full n b ∧ Full n c ∧ Full n d := by
  match T, h with
  | .node (.node a0 a1 a2 a3) (.node b0 b1 b2 b3) (.node c0 c1 c2 c3) (.node d0 d1 d2 d3), h =>
    obtain ⟨⟨fa0, fa1, fa2, fa3⟩, ⟨fb0, fb1, fb2, fb3⟩, ⟨fc0, fc1, fc2, fc3⟩, fd0, fd1, fd2, fd3⟩ := h
    have hf : (emB a0 && emB a1 && emB a2 && (emB b0 && emB b1 && emB b3) && (emB c0 && emB c2 && emB c3) && (emB d1 && emB d2 && emB d3)) = true := hf
    simp only [Bool.and_eq_true] at hf
    obtain ⟨⟨⟨⟨⟨h1, h2⟩, h3⟩, ⟨h4, h5⟩, h6⟩, ⟨h7, h8⟩, h9⟩, ⟨h10, h11⟩, h12⟩ := hf
    rw [(emB_eq fa0).1 h1, (emB_eq fa1).1 h2, (emB_eq fa2).1 h3, (emB_eq fb0).1 h4, (emB_eq fb1).1 h5, (emB_eq fb3).1 h6, (emB_eq fc0).1 h7, (emB_eq fc2).1 h8, (emB_eq fc3).1 h9, (emB_eq fd1).1 h10, (emB_eq fd2).1 h11, (emB_eq fd3).1 h12]
    exact ⟨a3, b2, c1, d0, rfl, rfl, fa3, fb2, fc1, fd0⟩
  | .node (.leaf _) _ _ _, h => exact h.1.elim
  | .node (.node _ _ _ _) (.leaf _) _ _, h => exact h.2.1.elim
  | .node (.node _ _ _ _) (.node _ _ _ _) (.leaf _) _, h => exact h.2.2.1.elim
  | .node (.node _ _ _ _) (.node _ _ _ _) (.node _ _ _ _) (.leaf _), h => exact h.2.2.2.elim
theorem wrap_fits (n : Nat) (a b c d : Tree) : fitsT (wrapT n a b c d) = true ∧ innerT (wrapT n a b c d) = .node a b c d := by
  refine ⟨?_, rfl⟩
  show (emB (emptyT n) && emB (emptyT n) && emB (emptyT n) && (emB (emptyT n) && emB (emptyT n) && emB (emptyT n)) && (emB (emptyT n) && emB (emptyT n) && emB (emptyT n)) && (emB (emptyT n) && emB (emptyT n) && emB (emptyT n))) = true
  rw [emB_empty]; rfl
/-- The least square from level 2 on: its level. -/
def peelL : Nat → Tree → Nat
  | n + 3, T => if fitsT T then peelL (n + 2) (innerT T) else n + 3
  | n, _ => n
def peelT : Nat → Tree → Tree
  | n + 3, T => if fitsT T then peelT (n + 2) (innerT T) else T
  | _, T => T
/-- The squares that peeling asks for. -/
def PeelD : Nat → Tree → Tree → Prop
  | n + 3, T, X => fitsT T = true ∧ (X = innerT T ∨ PeelD (n + 2) (innerT T) X)
  | _, _, _ => False
/-- Peeled alike, and no more is asked for. -/
def PeelEq (n : Nat) (T : Tree) (m : Nat) (T0 : Tree) : Prop := peelL n T = peelL m T0 ∧ ∀ X, PeelD n T X → PeelD m T0 X
theorem full_inner {n : Nat} {T : Tree} (h : Full (n + 2) T) (hf : fitsT T = true) : Full (n + 1) (innerT T) := by
  obtain ⟨a, b, c, d, _, e, ha, hb, hc, hd⟩ := fits_wrap h hf
  rw [e]; exact ⟨ha, hb, hc, hd⟩
/-- The peeled tree has the same cells. -/
theorem peel_cells : ∀ (n : Nat) (T : Tree), Full (n + 2) T → Full (peelL (n + 2) T) (peelT (n + 2) T) ∧ 2 ≤ peelL (n + 2) T ∧ peelL (n + 2) T ≤ n + 2 ∧
    cellsT (n + 2) T (-(2 ^ (n + 1))) (-(2 ^ (n + 1))) = cellsT (peelL (n + 2) T) (peelT (n + 2) T) (-(2 ^ (peelL (n + 2) T - 1))) (-(2 ^ (peelL (n + 2) T - 1)))
  | 0, T, h => ⟨h, Nat.le_refl _, Nat.le_refl _, rfl⟩
  | n + 1, T, h => by
    unfold peelL peelT
    split
    · next hf =>
      obtain ⟨h1, h2, h3, h4⟩ := peel_cells n (innerT T) (full_inner h hf)
      refine ⟨h1, h2, by omega, ?_⟩
      rw [← h4]
      obtain ⟨a, b, c, d, e1, e2, _⟩ := fits_wrap (n := n + 1) h hf
      rw [e2, e1]
      rw [show n + 1 + 2 = (n + 1) + 2 from rfl, cellsT_wrap]
      have e : (2 : Int) ^ (n + 1 + 1) = 2 ^ (n + 1) + 2 ^ (n + 1) := by rw [Int.pow_succ]; omega
      rw [e, show -((2 : Int) ^ (n + 1) + 2 ^ (n + 1)) + 2 ^ (n + 1) = -(2 ^ (n + 1)) by omega]
    · exact ⟨h, by omega, Nat.le_refl _, rfl⟩
end Go.Proofs.Ytabhpbkkjijfjaa
namespace Go.Proofs.Ytabhpbkkjijfjaa
set_option maxRecDepth 100000
open Go.RowKit

/-- 'x & 1' on an int is 'x % 2'. -/
theorem and_one_i64 (x : Int) : bits .and .i64 x 1 = x % 2 := by
  have h1 : BitVec.ofInt 64 x &&& BitVec.ofInt 64 1 = BitVec.ofNat 64 ((BitVec.ofInt 64 x).toNat % 2) := by
    apply BitVec.eq_of_toNat_eq
    rw [BitVec.toNat_and]
    have e : (BitVec.ofInt 64 1).toNat = 1 := by decide
    rw [e, Nat.and_one_is_mod, BitVec.toNat_ofNat]
    omega
  show IntKind.i64.wrap ((BitVec.ofInt 64 x &&& BitVec.ofInt 64 1).toNat : Int) = x % 2
  rw [h1, BitVec.toNat_ofNat, IntKind.wrap_i64]
  have e2 : ((BitVec.ofInt 64 x).toNat : Int) = x % 18446744073709551616 := by
    rw [BitVec.toNat_ofInt]; omega
  omega

/-- Go's remainder by 2 is 1 or -1 just where a number is odd. -/
theorem odd_tmod (x : Int) : ((x.tmod 2 == 1) || (x.tmod 2 == -1)) = (x % 2 == 1) := by
  have h := Int.mul_tdiv_add_tmod x 2
  have h1 : x.tmod 2 = -1 ∨ x.tmod 2 = 0 ∨ x.tmod 2 = 1 := by
    have a := Int.tmod_lt_of_pos x (show (0 : Int) < 2 by omega)
    have b := Int.lt_tmod_of_pos x (show (0 : Int) < 2 by omega)
    omega
  rcases h1 with e | e | e <;> rw [e] at h ⊢ <;> simp <;> omega

/-- What 'Lives' answers. -/
def livesF (b l : Int) (al : Bool) (n : Int) : Bool := decide (0 ≤ n) && (decide (n ≤ 8) && ((if al then l else b) / 2 ^ n.toNat % 2 == 1))
theorem three (n : Int) : n < 0 ∨ (0 ≤ n ∧ n ≤ 8) ∨ (0 ≤ n ∧ 8 < n) := by omega

set_option maxHeartbeats 400000 in
theorem lives_any (b l n : Int) (al : Bool) (w : World)  :
    Calls Try.prog 62 #[.agg #[.int .i64 b, .int .i64 l], .bool al, .int .i64 n] w fun e w' => e = .returned (.bool (livesF b l al n)) ∧ Below w.heap.size w w' := by
  cases al <;> rcases three n with h0 | ⟨h0, h8⟩ | ⟨h0, h8⟩
  all_goals
    go_enter Try.func62, Try.ntmps62
    go_wp2
    go_ret
    exact ⟨by simp [livesF, and_one_i64] <;> first | omega | simp_all, (Below.refl _ _).alloc (Nat.le_refl _) _⟩
set_option maxHeartbeats 400000 in
theorem refLives_any (b l n : Int) (al : Bool) (w : World)  :
    Calls Try.prog 36 #[.agg #[.int .i64 b, .int .i64 l], .bool al, .int .i64 n] w fun e w' => e = .returned (.bool (livesF b l al n)) ∧ Below w.heap.size w w' := by
  have ob := odd_tmod (b / 2 ^ n.toNat)
  have ol := odd_tmod (l / 2 ^ n.toNat)
  have Ob := Lib.hid ob
  have Ol := Lib.hid ol
  clear ob ol
  cases al <;> rcases three n with h0 | ⟨h0, h8⟩ | ⟨h0, h8⟩
  all_goals
    go_enter Try.func36, Try.ntmps36
    go_wp2
    all_goals
      go_ret
      have ob := Ob.out
      have ol := Ol.out
      refine ⟨?_, (Below.refl _ _).alloc (Nat.le_refl _) _⟩
      simp_all [livesF] <;> omega
end Go.Proofs.Ytabhpbkkjijfjaa
namespace Go.Proofs.Ytabhpbkkjijfjaa
set_option maxRecDepth 100000

abbrev PlaneF := Int → Int → Bool
def b2i (b : Bool) : Int := if b then 1 else 0
def nearP (f : PlaneF) (x y : Int) : Int := b2i (f (x - 1) (y - 1)) + b2i (f x (y - 1)) + b2i (f (x + 1) (y - 1)) + b2i (f (x - 1) y) + b2i (f (x + 1) y) + b2i (f (x - 1) (y + 1)) + b2i (f x (y + 1)) + b2i (f (x + 1) (y + 1))
def stepP (b l : Int) (f : PlaneF) : PlaneF := fun x y => livesF b l (f x y) (nearP f x y)
def iterP (b l : Int) : Nat → PlaneF → PlaneF
  | 0, f => f
  | k + 1, f => stepP b l (iterP b l k f)
theorem iterP_add (b l : Int) (f : PlaneF) : ∀ j k, iterP b l (j + k) f = iterP b l j (iterP b l k f)
  | 0, k => by rw [Nat.zero_add]; rfl
  | j + 1, k => by
    rw [show j + 1 + k = (j + k) + 1 by omega]
    show stepP b l (iterP b l (j + k) f) = stepP b l (iterP b l j (iterP b l k f))
    rw [iterP_add b l f j k]
/-- What comes of a place hangs on what lies near. -/
theorem iterP_local (b l : Int) : ∀ (k : Nat) (f g : PlaneF) (x y : Int), (∀ u v, x - k ≤ u → u ≤ x + k → y - k ≤ v → v ≤ y + k → f u v = g u v) → iterP b l k f x y = iterP b l k g x y
  | 0, f, g, x, y, h => h x y (by omega) (by omega) (by omega) (by omega)
  | k + 1, f, g, x, y, h => by
    have ih := fun u v (h1 : x - 1 ≤ u) (h2 : u ≤ x + 1) (h3 : y - 1 ≤ v) (h4 : v ≤ y + 1) => iterP_local b l k f g u v (fun p q a1 a2 a3 a4 => h p q (by omega) (by omega) (by omega) (by omega))
    show livesF b l (iterP b l k f x y) (nearP (iterP b l k f) x y) = livesF b l (iterP b l k g x y) (nearP (iterP b l k g) x y)
    rw [ih x y (by omega) (by omega) (by omega) (by omega)]
    congr 1
    unfold nearP
    rw [ih (x - 1) (y - 1) (by omega) (by omega) (by omega) (by omega), ih x (y - 1) (by omega) (by omega) (by omega) (by omega), ih (x + 1) (y - 1) (by omega) (by omega) (by omega) (by omega), ih (x - 1) y (by omega) (by omega) (by omega) (by omega), ih (x + 1) y (by omega) (by omega) (by omega) (by omega), ih (x - 1) (y + 1) (by omega) (by omega) (by omega) (by omega), ih x (y + 1) (by omega) (by omega) (by omega) (by omega), ih (x + 1) (y + 1) (by omega) (by omega) (by omega) (by omega)]
/-! ### Trees -/
def getT : Nat → Tree → Int → Int → Bool
  | 0, .leaf b, _, _ => b
  | n + 1, .node a b c d, x, y => if x < 2 ^ n then (if y < 2 ^ n then getT n a x y else getT n c x (y - 2 ^ n)) else (if y < 2 ^ n then getT n b (x - 2 ^ n) y else getT n d (x - 2 ^ n) (y - 2 ^ n))
  | 0, .node _ _ _ _, _, _ => false
  | _ + 1, .leaf _, _, _ => false
theorem pow_half (n : Nat) : (2 : Int) ^ (n + 1) = 2 ^ n + 2 ^ n := by rw [Int.pow_succ]; omega
theorem pow_pos2 (n : Nat) : (0 : Int) < 2 ^ n := Int.pow_pos (by omega)
theorem mem_get : ∀ {n : Nat} {T : Tree} {x y : Int}, Full n T → 0 ≤ x → x < 2 ^ n → 0 ≤ y → y < 2 ^ n → ∀ X Y, ((X + x, Y + y) ∈ cellsT n T X Y ↔ getT n T x y = true)
  | 0, .node _ _ _ _, _, _, h, _, _, _, _, _, _ => h.elim
  | 0, .leaf b, x, y, _, h1, h2, h3, h4, X, Y => by
    have e : (2 : Int) ^ 0 = 1 := rfl
    rw [e] at h2 h4
    obtain rfl : x = 0 := by omega
    obtain rfl : y = 0 := by omega
    rw [Int.add_zero, Int.add_zero]
    show (X, Y) ∈ (if b then [(X, Y)] else []) ↔ b = true
    cases b <;> simp
  | _ + 1, .leaf _, _, _, h, _, _, _, _, _, _ => h.elim
  | n + 1, .node a b c d, x, y, h, h1, h2, h3, h4, X, Y => by
    obtain ⟨ha, hb, hc, hd⟩ := h
    rw [pow_half] at h2 h4
    rw [mem_four]
    have na : (X + x, Y + y) ∈ cellsT n a X Y → _ := fun h => cellsT_in h
    have nb : (X + x, Y + y) ∈ cellsT n b (X + 2 ^ n) Y → _ := fun h => cellsT_in h
    have nc : (X + x, Y + y) ∈ cellsT n c X (Y + 2 ^ n) → _ := fun h => cellsT_in h
    have nd : (X + x, Y + y) ∈ cellsT n d (X + 2 ^ n) (Y + 2 ^ n) → _ := fun h => cellsT_in h
    simp only at na nb nc nd
    unfold getT
    split
    · next hx =>
      split
      · next hy =>
        rw [← mem_get ha h1 hx h3 hy X Y]
        constructor
        · rintro (h | h | h | h)
          · exact h
          · have := nb h; omega
          · have := nc h; omega
          · have := nd h; omega
        · exact .inl
      · next hy =>
        rw [← mem_get hc h1 hx (y := y - 2 ^ n) (by omega) (by omega) X (Y + 2 ^ n), show Y + 2 ^ n + (y - 2 ^ n) = Y + y by omega]
        constructor
        · rintro (h | h | h | h)
          · have := na h; omega
          · have := nb h; omega
          · exact h
          · have := nd h; omega
        · exact fun h => .inr (.inr (.inl h))
    · next hx =>
      split
      · next hy =>
        rw [← mem_get hb (x := x - 2 ^ n) (by omega) (by omega) h3 hy (X + 2 ^ n) Y, show X + 2 ^ n + (x - 2 ^ n) = X + x by omega]
        constructor
        · rintro (h | h | h | h)
          · have := na h; omega
          · exact h
          · have := nc h; omega
          · have := nd h; omega
        · exact fun h => .inr (.inl h)
      · next hy =>
        rw [← mem_get hd (x := x - 2 ^ n) (by omega) (by omega) (y := y - 2 ^ n) (by omega) (by omega) (X + 2 ^ n) (Y + 2 ^ n), show X + 2 ^ n + (x - 2 ^ n) = X + x by omega, show Y + 2 ^ n + (y - 2 ^ n) = Y + y by omega]
        constructor
        · rintro (h | h | h | h)
          · have := na h; omega
          · have := nb h; omega
          · have := nc h; omega
          · exact h
        · exact fun h => .inr (.inr (.inr h))
/-- The plane is this tree there. -/
def Agree (n : Nat) (T : Tree) (f : PlaneF) (X Y : Int) : Prop := ∀ x y, 0 ≤ x → x < 2 ^ n → 0 ≤ y → y < 2 ^ n → f (X + x) (Y + y) = getT n T x y
theorem agree_four {n : Nat} {a b c d : Tree} {f : PlaneF} {X Y : Int} : Agree (n + 1) (.node a b c d) f X Y ↔ Agree n a f X Y ∧ Agree n b f (X + 2 ^ n) Y ∧ Agree n c f X (Y + 2 ^ n) ∧ Agree n d f (X + 2 ^ n) (Y + 2 ^ n) := by
  have hp := pow_pos2 n
  constructor
  · intro h
    refine ⟨fun x y h1 h2 h3 h4 => ?_, fun x y h1 h2 h3 h4 => ?_, fun x y h1 h2 h3 h4 => ?_, fun x y h1 h2 h3 h4 => ?_⟩
    · rw [h x y h1 (by rw [pow_half]; omega) h3 (by rw [pow_half]; omega), getT, if_pos h2, if_pos h4]
    · rw [show X + 2 ^ n + x = X + (2 ^ n + x) by omega, h (2 ^ n + x) y (by omega) (by rw [pow_half]; omega) h3 (by rw [pow_half]; omega), getT, if_neg (by omega), if_pos h4, show 2 ^ n + x - 2 ^ n = x by omega]
    · rw [show Y + 2 ^ n + y = Y + (2 ^ n + y) by omega, h x (2 ^ n + y) h1 (by rw [pow_half]; omega) (by omega) (by rw [pow_half]; omega), getT, if_pos h2, if_neg (by omega), show 2 ^ n + y - 2 ^ n = y by omega]
    · rw [show X + 2 ^ n + x = X + (2 ^ n + x) by omega, show Y + 2 ^ n + y = Y + (2 ^ n + y) by omega, h (2 ^ n + x) (2 ^ n + y) (by omega) (by rw [pow_half]; omega) (by omega) (by rw [pow_half]; omega), getT, if_neg (by omega), if_neg (by omega), show 2 ^ n + x - 2 ^ n = x by omega, show 2 ^ n + y - 2 ^ n = y by omega]
  · rintro ⟨ha, hb, hc, hd⟩ x y h1 h2 h3 h4
    rw [pow_half] at h2 h4
    unfold getT
    split
    · next hx =>
      split
      · next hy => exact ha x y h1 hx h3 hy
      · next hy =>
        have := hc x (y - 2 ^ n) h1 hx (by omega) (by omega)
        rwa [show Y + 2 ^ n + (y - 2 ^ n) = Y + y by omega] at this
    · next hx =>
      split
      · next hy =>
        have := hb (x - 2 ^ n) y (by omega) (by omega) h3 hy
        rwa [show X + 2 ^ n + (x - 2 ^ n) = X + x by omega] at this
      · next hy =>
        have := hd (x - 2 ^ n) (y - 2 ^ n) (by omega) (by omega) (by omega) (by omega)
        rwa [show X + 2 ^ n + (x - 2 ^ n) = X + x by omega, show Y + 2 ^ n + (y - 2 ^ n) = Y + y by omega] at this
/-- The middle of a square of level n + 2, so many steps later, is this one of level n + 1. -/
structure LeapOk (b l : Int) (n : Nat) (T : Tree) (k : Nat) (R : Tree) : Prop where
  full : Full (n + 1) R
  ok : ∀ f X Y, Agree (n + 2) T f X Y → Agree (n + 1) R (iterP b l k f) (X + 2 ^ n) (Y + 2 ^ n)
/-- The plane that has nothing but a tree. -/
def planeT (n : Nat) (T : Tree) (X Y : Int) : PlaneF := fun x y => decide (X ≤ x ∧ x < X + 2 ^ n ∧ Y ≤ y ∧ y < Y + 2 ^ n) && getT n T (x - X) (y - Y)
theorem planeT_agree (n : Nat) (T : Tree) (X Y : Int) : Agree n T (planeT n T X Y) X Y := fun x y h1 h2 h3 h4 => by
  unfold planeT
  rw [decide_eq_true (by omega), show X + x - X = x by omega, show Y + y - Y = y by omega]; rfl
theorem planeT_cells {n : Nat} {T : Tree} (h : Full n T) (X Y x y : Int) : planeT n T X Y x y = decide ((x, y) ∈ cellsT n T X Y) := by
  unfold planeT
  by_cases hin : X ≤ x ∧ x < X + 2 ^ n ∧ Y ≤ y ∧ y < Y + 2 ^ n
  · rw [decide_eq_true hin, Bool.true_and]
    have := mem_get h (x := x - X) (y := y - Y) (by omega) (by omega) (by omega) (by omega) X Y
    rw [show X + (x - X) = x by omega, show Y + (y - Y) = y by omega] at this
    cases hg : getT n T (x - X) (y - Y) with
    | true => rw [decide_eq_true (this.2 hg)]
    | false => rw [decide_eq_false (fun e => by have := this.1 e; rw [hg] at this; cases this)]
  · rw [decide_eq_false hin, Bool.false_and, decide_eq_false (fun e => hin (by have := cellsT_in e; simp only at this; omega))]
/-- Trees with the same places are the same. -/
theorem getT_inj : ∀ {n : Nat} {T U : Tree}, Full n T → Full n U → (∀ x y, 0 ≤ x → x < 2 ^ n → 0 ≤ y → y < 2 ^ n → getT n T x y = getT n U x y) → T = U
  | 0, .leaf a, .leaf b, _, _, h => by
    have := h 0 0 (by omega) (by decide) (by omega) (by decide)
    rw [show a = b from this]
  | 0, .node _ _ _ _, _, h, _, _ => h.elim
  | 0, .leaf _, .node _ _ _ _, _, h, _ => h.elim
  | _ + 1, .leaf _, _, h, _, _ => h.elim
  | _ + 1, .node _ _ _ _, .leaf _, _, h, _ => h.elim
  | n + 1, .node a b c d, .node a' b' c' d', ⟨ha, hb, hc, hd⟩, ⟨ka, kb, kc, kd⟩, h => by
    have hf : Agree (n + 1) (.node a' b' c' d') (planeT (n + 1) (.node a b c d) 0 0) 0 0 := fun x y h1 h2 h3 h4 => by
      rw [planeT_agree (n + 1) (.node a b c d) 0 0 x y h1 h2 h3 h4]; exact h x y h1 h2 h3 h4
    have hg := planeT_agree (n + 1) (.node a b c d) 0 0
    obtain ⟨f1, f2, f3, f4⟩ := agree_four.1 hf
    obtain ⟨g1, g2, g3, g4⟩ := agree_four.1 hg
    rw [getT_inj ha ka fun x y h1 h2 h3 h4 => (g1 x y h1 h2 h3 h4).symm.trans (f1 x y h1 h2 h3 h4), getT_inj hb kb fun x y h1 h2 h3 h4 => (g2 x y h1 h2 h3 h4).symm.trans (f2 x y h1 h2 h3 h4), getT_inj hc kc fun x y h1 h2 h3 h4 => (g3 x y h1 h2 h3 h4).symm.trans (f3 x y h1 h2 h3 h4), getT_inj hd kd fun x y h1 h2 h3 h4 => (g4 x y h1 h2 h3 h4).symm.trans (f4 x y h1 h2 h3 h4)]
theorem LeapOk.same {b l : Int} {n k : Nat} {T R Q : Tree} (h : LeapOk b l n T k R) (g : LeapOk b l n T k Q) : R = Q := by
  have hp := planeT_agree (n + 2) T 0 0
  exact getT_inj h.full g.full fun x y h1 h2 h3 h4 => (h.ok _ 0 0 hp x y h1 h2 h3 h4).symm.trans (g.ok _ 0 0 hp x y h1 h2 h3 h4)
/-! ### The sixteen squares two levels below -/
def kidN : Nat → Tree → Tree
  | 0, .node a _ _ _ => a
  | 1, .node _ b _ _ => b
  | 2, .node _ _ c _ => c
  | _, .node _ _ _ d => d
  | _, .leaf b => .leaf b
/-- Row y, column x of four by four. -/
def gridT (T : Tree) (y x : Nat) : Tree := kidN (y % 2 * 2 + x % 2) (kidN (y / 2 * 2 + x / 2) T)
theorem full_kidN {n : Nat} {T : Tree} (h : Full (n + 1) T) (k : Nat) : Full n (kidN k T) := by
  match T, h with
  | .leaf _, h => exact h.elim
  | .node a b c d, ⟨ha, hb, hc, hd⟩ =>
    match k with
    | 0 => exact ha
    | 1 => exact hb
    | 2 => exact hc
    | _ + 3 => exact hd
theorem full_grid {n : Nat} {T : Tree} (h : Full (n + 2) T) (y x : Nat) : Full n (gridT T y x) := full_kidN (full_kidN h _) _
theorem agree_kidN {n : Nat} {T : Tree} {f : PlaneF} {X Y : Int} (hf : Full (n + 1) T) (h : Agree (n + 1) T f X Y) {j i : Nat} (hj : j < 2) (hi : i < 2) : Agree n (kidN (j * 2 + i) T) f (X + i * 2 ^ n) (Y + j * 2 ^ n) := by
  match T, hf with
  | .leaf _, hf => exact hf.elim
  | .node a b c d, _ =>
    obtain ⟨h1, h2, h3, h4⟩ := agree_four.1 h
    rcases (show j = 0 ∨ j = 1 by omega) with rfl | rfl <;> rcases (show i = 0 ∨ i = 1 by omega) with rfl | rfl <;> simp [kidN] <;> assumption
theorem agree_grid {n : Nat} {T : Tree} {f : PlaneF} {X Y : Int} (hf : Full (n + 2) T) (h : Agree (n + 2) T f X Y) {y x : Nat} (hy : y < 4) (hx : x < 4) : Agree n (gridT T y x) f (X + x * 2 ^ n) (Y + y * 2 ^ n) := by
  have h1 := agree_kidN (n := n + 1) hf h (j := y / 2) (i := x / 2) (by omega) (by omega)
  have h2 := agree_kidN (full_kidN (n := n + 1) hf (y / 2 * 2 + x / 2)) h1 (j := y % 2) (i := x % 2) (by omega) (by omega)
  have ex : X + ((x / 2 : Nat) : Int) * 2 ^ (n + 1) + ((x % 2 : Nat) : Int) * 2 ^ n = X + (x : Int) * 2 ^ n := by
    rcases (show x = 0 ∨ x = 1 ∨ x = 2 ∨ x = 3 by omega) with rfl | rfl | rfl | rfl <;> simp [pow_half] <;> omega
  have ey : Y + ((y / 2 : Nat) : Int) * 2 ^ (n + 1) + ((y % 2 : Nat) : Int) * 2 ^ n = Y + (y : Int) * 2 ^ n := by
    rcases (show y = 0 ∨ y = 1 ∨ y = 2 ∨ y = 3 by omega) with rfl | rfl | rfl | rfl <;> simp [pow_half] <;> omega
  rw [ex, ey] at h2
  exact h2
/-- Four squares of a row of squares, joined. -/
theorem agree_join {n : Nat} {a b c d : Tree} {f : PlaneF} {X Y : Int} {y x : Nat} (ha : Agree n a f (X + x * 2 ^ n) (Y + y * 2 ^ n)) (hb : Agree n b f (X + (x + 1 : Nat) * 2 ^ n) (Y + y * 2 ^ n)) (hc : Agree n c f (X + x * 2 ^ n) (Y + (y + 1 : Nat) * 2 ^ n)) (hd : Agree n d f (X + (x + 1 : Nat) * 2 ^ n) (Y + (y + 1 : Nat) * 2 ^ n)) : Agree (n + 1) (.node a b c d) f (X + x * 2 ^ n) (Y + y * 2 ^ n) := by
  have e1 : ∀ (Z : Int) (z : Nat), Z + ((z + 1 : Nat) : Int) * 2 ^ n = Z + (z : Int) * 2 ^ n + 2 ^ n := fun Z z => by
    rw [Int.natCast_succ, Int.add_mul]; omega
  rw [e1] at hb hd
  rw [e1] at hc hd
  exact agree_four.2 ⟨ha, hb, hc, hd⟩
/-- The middle of a square, no step later. -/
theorem leap_mid {b l : Int} {n : Nat} {T : Tree} (h : Full (n + 2) T) : LeapOk b l n T 0 (.node (gridT T 1 1) (gridT T 1 2) (gridT T 2 1) (gridT T 2 2)) := by
  refine ⟨⟨full_grid h _ _, full_grid h _ _, full_grid h _ _, full_grid h _ _⟩, fun f X Y ha => ?_⟩
  have g := fun (y x : Nat) (hy : y < 4) (hx : x < 4) => agree_grid h ha hy hx
  have := agree_join (y := 1) (x := 1) (g 1 1 (by omega) (by omega)) (g 1 2 (by omega) (by omega)) (g 2 1 (by omega) (by omega)) (g 2 2 (by omega) (by omega))
  show Agree (n + 1) _ f _ _
  simpa using this
/-- By nine squares that overlap, and four: the steps of both add. -/
theorem leap_large {b l : Int} {m p q : Nat} {T : Tree} {N : Nat → Nat → Tree} {Q : Nat → Nat → Tree} (h : Full (m + 3) T)
    (hN : ∀ y x, y < 3 → x < 3 → LeapOk b l m (.node (gridT T y x) (gridT T y (x + 1)) (gridT T (y + 1) x) (gridT T (y + 1) (x + 1))) p (N y x))
    (hQ : ∀ y x, y < 2 → x < 2 → LeapOk b l m (.node (N y x) (N y (x + 1)) (N (y + 1) x) (N (y + 1) (x + 1))) q (Q y x)) : LeapOk b l (m + 1) T (q + p) (.node (Q 0 0) (Q 0 1) (Q 1 0) (Q 1 1)) := by
  refine ⟨⟨(hQ 0 0 (by omega) (by omega)).full, (hQ 0 1 (by omega) (by omega)).full, (hQ 1 0 (by omega) (by omega)).full, (hQ 1 1 (by omega) (by omega)).full⟩, fun f X Y ha => ?_⟩
  have g := fun (y x : Nat) (hy : y < 4) (hx : x < 4) => agree_grid (n := m + 1) h ha hy hx
  have hn := fun (y x : Nat) (hy : y < 3) (hx : x < 3) => (hN y x hy hx).ok f _ _ (agree_join (y := y) (x := x) (g y x (by omega) (by omega)) (g y (x + 1) (by omega) (by omega)) (g (y + 1) x (by omega) (by omega)) (g (y + 1) (x + 1) (by omega) (by omega)))
  have hn' : ∀ y x, y < 3 → x < 3 → Agree (m + 1) (N y x) (iterP b l p f) (X + 2 ^ m + x * 2 ^ (m + 1)) (Y + 2 ^ m + y * 2 ^ (m + 1)) := fun y x hy hx => by
    have := hn y x hy hx
    rwa [show X + (x : Int) * 2 ^ (m + 1) + 2 ^ m = X + 2 ^ m + (x : Int) * 2 ^ (m + 1) by omega, show Y + (y : Int) * 2 ^ (m + 1) + 2 ^ m = Y + 2 ^ m + (y : Int) * 2 ^ (m + 1) by omega] at this
  have hq := fun (y x : Nat) (hy : y < 2) (hx : x < 2) => (hQ y x hy hx).ok (iterP b l p f) _ _ (agree_join (y := y) (x := x) (hn' y x (by omega) (by omega)) (hn' y (x + 1) (by omega) (by omega)) (hn' (y + 1) x (by omega) (by omega)) (hn' (y + 1) (x + 1) (by omega) (by omega)))
  have hq' : ∀ y x, y < 2 → x < 2 → Agree (m + 1) (Q y x) (iterP b l (q + p) f) (X + 2 ^ (m + 1) + x * 2 ^ (m + 1)) (Y + 2 ^ (m + 1) + y * 2 ^ (m + 1)) := fun y x hy hx => by
    have := hq y x hy hx
    rw [← iterP_add] at this
    have e := pow_half m
    rwa [show X + 2 ^ m + (x : Int) * 2 ^ (m + 1) + 2 ^ m = X + 2 ^ (m + 1) + (x : Int) * 2 ^ (m + 1) by omega, show Y + 2 ^ m + (y : Int) * 2 ^ (m + 1) + 2 ^ m = Y + 2 ^ (m + 1) + (y : Int) * 2 ^ (m + 1) by omega] at this
  have := agree_join (y := 0) (x := 0) (hq' 0 0 (by omega) (by omega)) (hq' 0 1 (by omega) (by omega)) (hq' 1 0 (by omega) (by omega)) (hq' 1 1 (by omega) (by omega))
  simpa using this
end Go.Proofs.Ytabhpbkkjijfjaa
