/-
  Squares at places of a plane; all that a leap asks for, by its places: plain; All that a leap asks for in a square of any level; how many things these are: plain.
-/
import Derived.Test.YtabhpbkkjijfjaaZLeapSteps33
namespace Go.Proofs.Ytabhpbkkjijfjaa
set_option maxRecDepth 100000

/-- The square of a level at a place of a plane. -/
def treeAt : Nat → PlaneF → Int → Int → Tree
  | 0, f, X, Y => .leaf (f X Y)
  | n + 1, f, X, Y => .node (treeAt n f X Y) (treeAt n f (X + 2 ^ n) Y) (treeAt n f X (Y + 2 ^ n)) (treeAt n f (X + 2 ^ n) (Y + 2 ^ n))
theorem full_at : ∀ {n : Nat} {f : PlaneF} {X Y : Int}, Full n (treeAt n f X Y)
  | 0, _, _, _ => trivial
  | _ + 1, _, _, _ => ⟨full_at, full_at, full_at, full_at⟩
theorem at_agree : ∀ {n : Nat} {f : PlaneF} {X Y : Int}, Agree n (treeAt n f X Y) f X Y
  | 0, f, X, Y => fun x y h1 h2 h3 h4 => by
    have e : (2 : Int) ^ 0 = 1 := rfl
    rw [e] at h2 h4
    obtain rfl : x = 0 := by omega
    obtain rfl : y = 0 := by omega
    rw [Int.add_zero, Int.add_zero]; rfl
  | _ + 1, _, _, _ => agree_four.2 ⟨at_agree, at_agree, at_agree, at_agree⟩
theorem agree_at : ∀ {n : Nat} {T : Tree} {f : PlaneF} {X Y : Int}, Full n T → Agree n T f X Y → T = treeAt n f X Y
  | 0, .leaf b, f, X, Y, _, h => by
    have := h 0 0 (by omega) (by decide) (by omega) (by decide)
    rw [Int.add_zero, Int.add_zero] at this
    rw [treeAt, this]; rfl
  | 0, .node _ _ _ _, _, _, _, h, _ => h.elim
  | _ + 1, .leaf _, _, _, _, h, _ => h.elim
  | n + 1, .node a b c d, f, X, Y, ⟨ha, hb, hc, hd⟩, h => by
    obtain ⟨g1, g2, g3, g4⟩ := agree_four.1 h
    rw [treeAt, ← agree_at ha g1, ← agree_at hb g2, ← agree_at hc g3, ← agree_at hd g4]
theorem leap_at {b l : Int} {n j : Nat} {f : PlaneF} {X Y : Int} (hj : j ≤ n) : leapT b l n j (treeAt (n + 2) f X Y) = treeAt (n + 1) (iterP b l (2 ^ j) f) (X + 2 ^ n) (Y + 2 ^ n) := by
  have h := leapT_ok (b := b) (l := l) (n := n) (j := j) (T := treeAt (n + 2) f X Y) full_at hj
  exact agree_at h.full (h.ok f X Y at_agree)
theorem grid_at {n : Nat} {f : PlaneF} {X Y : Int} {y x : Nat} (hy : y < 4) (hx : x < 4) : gridT (treeAt (n + 2) f X Y) y x = treeAt n f (X + x * 2 ^ n) (Y + y * 2 ^ n) :=
  agree_at (full_grid full_at _ _) (agree_grid full_at at_agree hy hx)
theorem sq_at {n : Nat} {f : PlaneF} {X Y : Int} {g : Nat → Nat → Tree} {y x k : Nat} (hg : ∀ y x, y < k → x < k → g y x = treeAt n f (X + x * 2 ^ n) (Y + y * 2 ^ n)) (hy : y + 1 < k) (hx : x + 1 < k) : sqG g y x = treeAt (n + 1) f (X + x * 2 ^ n) (Y + y * 2 ^ n) := by
  have e1 : ∀ (Z : Int) (z : Nat), Z + ((z + 1 : Nat) : Int) * 2 ^ n = Z + (z : Int) * 2 ^ n + 2 ^ n := fun Z z => by
    rw [Int.natCast_succ, Int.add_mul]; omega
  unfold sqG
  rw [treeAt, hg _ _ (by omega) (by omega), hg _ _ (by omega) hx, hg _ _ hy (by omega), hg _ _ hy hx, e1, e1]
theorem mid_at {n : Nat} {f : PlaneF} {X Y : Int} : midT (treeAt (n + 2) f X Y) = treeAt (n + 1) f (X + 2 ^ n) (Y + 2 ^ n) := by
  unfold midT
  rw [sq_at (k := 4) (fun y x hy hx => grid_at hy hx) (by omega) (by omega)]
  simp
/-- Whatever is small. -/
def SmallTh (code : Int) (th : Th) : Prop := (∃ T, Full 1 T ∧ th = .sq T) ∨ (∃ T, Full 2 T ∧ th = .sq T) ∨ (∃ T, Full 2 T ∧ th = .note T code 0)
theorem small_sq {code : Int} {f : PlaneF} {X Y : Int} {n : Nat} (h1 : 1 ≤ n) (h2 : n ≤ 2) : SmallTh code (.sq (treeAt n f X Y)) := by
  rcases (show n = 1 ∨ n = 2 by omega) with rfl | rfl
  · exact .inl ⟨_, full_at, rfl⟩
  · exact .inr (.inl ⟨_, full_at, rfl⟩)
/-- At a place of the lattice of a level and time. -/
def FullAt (b l : Int) (f : PlaneF) (n s : Nat) (X Y : Int) (th : Th) : Prop :=
  ∃ (m k : Nat) (u v : Int), m + 2 ≤ n ∧ k ≤ 2 ^ (n - (m + 1)) ∧
    (th = .sq (treeAt (m + 3) (iterP b l (s + k * 2 ^ (m + 1)) f) (X + k * 2 ^ (m + 1) + u * 2 ^ (m + 2)) (Y + k * 2 ^ (m + 1) + v * 2 ^ (m + 2))) ∨
     th = .note (treeAt (m + 3) (iterP b l (s + k * 2 ^ (m + 1)) f) (X + k * 2 ^ (m + 1) + u * 2 ^ (m + 2)) (Y + k * 2 ^ (m + 1) + v * 2 ^ (m + 2))) (codeR b l) ((m + 1 : Nat) : Int))
theorem pow_split {p q : Nat} (h : p ≤ q) : (2 : Int) ^ q = 2 ^ (q - p) * 2 ^ p := by
  rw [← Int.pow_add]; congr 1; omega
/-- Places of a part are places of the whole. -/
theorem FullAt.up {b l : Int} {f : PlaneF} {i s : Nat} {X Y : Int} {th : Th} {g : Nat} (cx cy : Int) (hg : g ≤ 1) (h : FullAt b l f i (s + g * 2 ^ i) (X + g * 2 ^ i + cx * 2 ^ (i + 1)) (Y + g * 2 ^ i + cy * 2 ^ (i + 1)) th) : FullAt b l f (i + 1) s X Y th := by
  obtain ⟨m, k, u, v, hm, hk, ht⟩ := h
  have e1 : (2 : Nat) ^ i = 2 ^ (i - (m + 1)) * 2 ^ (m + 1) := by rw [← Nat.pow_add]; congr 1; omega
  have e2 : (2 : Int) ^ i = 2 ^ (i - (m + 1)) * 2 ^ (m + 1) := pow_split (by omega)
  have e3 : (2 : Int) ^ (i + 1) = 2 ^ (i + 1 - (m + 2)) * 2 ^ (m + 2) := pow_split (by omega)
  have et : s + g * 2 ^ i + k * 2 ^ (m + 1) = s + (k + g * 2 ^ (i - (m + 1))) * 2 ^ (m + 1) := by
    rw [e1, Nat.add_mul, Nat.mul_assoc]; omega
  have ex : ∀ (Z c w : Int), Z + g * 2 ^ i + c * 2 ^ (i + 1) + k * 2 ^ (m + 1) + w * 2 ^ (m + 2) = Z + ((k + g * 2 ^ (i - (m + 1)) : Nat) : Int) * 2 ^ (m + 1) + (w + c * 2 ^ (i + 1 - (m + 2))) * 2 ^ (m + 2) := fun Z c w => by
    rw [e2, e3, Int.natCast_add, Int.natCast_mul, Int.natCast_pow, Int.add_mul, Int.add_mul, ← Int.mul_assoc, ← Int.mul_assoc]
    have : ((2 : Nat) : Int) = 2 := rfl
    rw [this]
    omega
  have hk' : k + g * 2 ^ (i - (m + 1)) ≤ 2 ^ (i + 1 - (m + 1)) := by
    rw [show i + 1 - (m + 1) = (i - (m + 1)) + 1 by omega, Nat.pow_succ]
    have : g * 2 ^ (i - (m + 1)) ≤ 1 * 2 ^ (i - (m + 1)) := Nat.mul_le_mul_right _ hg
    omega
  rw [et, ex, ex] at ht
  exact ⟨m, _, _, _, by omega, hk', ht⟩
/-- All that a leap of a whole square asks for. -/
theorem dem_full {b l : Int} {f : PlaneF} {th : Th} : ∀ {n s : Nat} {X Y : Int}, Dem b l n n (treeAt (n + 2) (iterP b l s f) X Y) th → SmallTh (codeR b l) th ∨ th = .note (treeAt (n + 2) (iterP b l s f) X Y) (codeR b l) (n : Int) ∨ FullAt b l f n s X Y th
  | 0, s, X, Y, h => by
    rcases h with h | h
    · have e := leap_at (b := b) (l := l) (n := 0) (j := 0) (f := iterP b l s f) (X := X) (Y := Y) (Nat.le_refl _)
      have h : th = .sq (leapT b l 0 0 (treeAt 2 (iterP b l s f) X Y)) := h
      rw [e] at h
      rw [h]
      exact .inl (small_sq (by omega) (by omega))
    · exact .inl (.inr (.inr ⟨_, full_at, h⟩))
  | i + 1, s, X, Y, h => by
    have ec : ∀ c : Nat, (c : Int) * 2 ^ (i + 1) = (0 : Nat) * 2 ^ (i + 0) + (c : Int) * 2 ^ (i + 1) := fun c => by simp
    have hn : ∀ y x, y < 3 → x < 3 → sqG (gridT (treeAt (i + 3) (iterP b l s f) X Y)) y x = treeAt (i + 2) (iterP b l s f) (X + x * 2 ^ (i + 1)) (Y + y * 2 ^ (i + 1)) := fun y x hy hx => sq_at (n := i + 1) (k := 4) (fun y x hy hx => grid_at hy hx) (by omega) (by omega)
    have hr : ∀ y x, y < 3 → x < 3 → (if i + 1 = i + 1 then leapT b l i (i + 1 - 1) (sqG (gridT (treeAt (i + 3) (iterP b l s f) X Y)) y x) else midT (sqG (gridT (treeAt (i + 3) (iterP b l s f) X Y)) y x)) = treeAt (i + 1) (iterP b l (s + 2 ^ i) f) (X + 2 ^ i + x * 2 ^ (i + 1)) (Y + 2 ^ i + y * 2 ^ (i + 1)) := fun y x hy hx => by
      rw [if_pos rfl, hn y x hy hx, Nat.add_sub_cancel, leap_at (Nat.le_refl _), ← iterP_add, Nat.add_comm (2 ^ i) s, Int.add_right_comm, Int.add_right_comm Y]
    have hq := fun y x (hy : y < 2) (hx : x < 2) => sq_at (y := y) (x := x) (k := 3) hr (by omega) (by omega)
    have one : ∀ (g : Nat) (cx cy : Int), g ≤ 2 → th = .sq (treeAt (i + 2) (iterP b l (s + g * 2 ^ i) f) (X + g * 2 ^ i + cx * 2 ^ (i + 1)) (Y + g * 2 ^ i + cy * 2 ^ (i + 1))) ∨ th = .note (treeAt (i + 2) (iterP b l (s + g * 2 ^ i) f) (X + g * 2 ^ i + cx * 2 ^ (i + 1)) (Y + g * 2 ^ i + cy * 2 ^ (i + 1))) (codeR b l) (i : Int) → SmallTh (codeR b l) th ∨ FullAt b l f (i + 1) s X Y th := fun g cx cy hg h => by
      match i, h with
      | 0, h =>
        left
        rcases h with h | h
        · rw [h]; exact small_sq (by omega) (by omega)
        · exact .inr (.inr ⟨_, full_at, h⟩)
      | m + 1, h => exact .inr ⟨m, g, cx, cy, by omega, by rw [show m + 1 + 1 - (m + 1) = 1 by omega]; exact hg, h⟩
    have two : ∀ (g : Nat) (cx cy : Int), g ≤ 1 → Dem b l i i (treeAt (i + 2) (iterP b l (s + g * 2 ^ i) f) (X + g * 2 ^ i + cx * 2 ^ (i + 1)) (Y + g * 2 ^ i + cy * 2 ^ (i + 1))) th → SmallTh (codeR b l) th ∨ FullAt b l f (i + 1) s X Y th := fun g cx cy hg h => by
      rcases dem_full h with h | h | h
      · exact .inl h
      · exact one g cx cy (by omega) (.inr h)
      · exact .inr (h.up cx cy hg)
    have z : ∀ (Z : Int), Z + ((0 : Nat) : Int) * 2 ^ i = Z := fun Z => by simp
    have o : ∀ (Z : Int), Z + ((1 : Nat) : Int) * 2 ^ i = Z + 2 ^ i := fun Z => by simp
    have p1 : s + 2 ^ (i + 1) = s + 2 * 2 ^ i := by rw [Nat.pow_succ, Nat.mul_comm]
    have p2 : ∀ Z : Int, Z + 2 ^ (i + 1) = Z + ((2 : Nat) : Int) * 2 ^ i + 0 * 2 ^ (i + 1) := fun Z => by rw [Int.zero_mul, Int.pow_succ, Int.mul_comm]; omega
    rcases h with h | h | ⟨y, x, hy, hx, h | h⟩ | ⟨y, x, hy, hx, h | h⟩
    · exact .inr (.inl h)
    · rw [leap_at (Nat.le_refl _), ← iterP_add, Nat.add_comm (2 ^ (i + 1)) s] at h
      have := one 2 0 0 (by omega) (.inl (by rw [h, p1, p2, p2]))
      rcases this with h | h
      · exact .inl h
      · exact .inr (.inr h)
    · rw [hn y x hy hx] at h
      rcases one 0 x y (by omega) (.inl (by rw [h, z, z]; simp)) with h | h
      · exact .inl h
      · exact .inr (.inr h)
    · rw [if_pos rfl, hn y x hy hx, Nat.add_sub_cancel] at h
      rcases two 0 x y (by omega) (by rw [z, z]; simpa using h) with h | h
      · exact .inl h
      · exact .inr (.inr h)
    · rw [hq y x hy hx] at h
      rcases one 1 x y (by omega) (.inl (by rw [h, o, o]; simp)) with h | h
      · exact .inl h
      · exact .inr (.inr h)
    · rw [if_pos rfl, hq y x hy hx, Nat.add_sub_cancel] at h
      rcases two 1 x y (by omega) (by rw [o, o]; simpa using h) with h | h
      · exact .inl h
      · exact .inr (.inr h)
end Go.Proofs.Ytabhpbkkjijfjaa
namespace Go.Proofs.Ytabhpbkkjijfjaa
set_option maxRecDepth 100000

/-- At a place of the coarse lattice, at a leap's start or end. -/
def PartAt (b l : Int) (f : PlaneF) (j s top : Nat) (th : Th) : Prop :=
  (∃ (m g : Nat) (u v : Int), m + 3 ≤ top ∧ g ≤ 1 ∧ th = .sq (treeAt (m + 3) (iterP b l (s + g * 2 ^ j) f) (u * 2 ^ (m + 1)) (v * 2 ^ (m + 1)))) ∨
  (∃ (m : Nat) (u v : Int), m + 3 ≤ top ∧ th = .note (treeAt (m + 3) (iterP b l s f) (u * 2 ^ (m + 1)) (v * 2 ^ (m + 1))) (codeR b l) (j : Int))
theorem FullAt.home {b l : Int} {f : PlaneF} {j s : Nat} {U V : Int} {th : Th} (h : FullAt b l f j s (U * 2 ^ j) (V * 2 ^ j) th) : FullAt b l f j s 0 0 th := by
  obtain ⟨m, k, u, v, hm, hk, ht⟩ := h
  have e : (2 : Int) ^ j = 2 ^ (j - (m + 2)) * 2 ^ (m + 2) := pow_split (by omega)
  have ex : ∀ (Z w : Int), Z * 2 ^ j + k * 2 ^ (m + 1) + w * 2 ^ (m + 2) = 0 + k * 2 ^ (m + 1) + (w + Z * 2 ^ (j - (m + 2))) * 2 ^ (m + 2) := fun Z w => by
    rw [e, Int.add_mul, ← Int.mul_assoc]; omega
  rw [ex, ex] at ht
  exact ⟨m, k, _, _, hm, hk, ht⟩
theorem part_sq {b l : Int} {f : PlaneF} {j s top g : Nat} {th : Th} {i : Nat} {u v : Int} {X Y : Int} (hX : X = u * 2 ^ i) (hY : Y = v * 2 ^ i) (h : th = .sq (treeAt (i + 2) (iterP b l (s + g * 2 ^ j) f) X Y)) (hg : g ≤ 1) (ht : i + 2 ≤ top) : SmallTh (codeR b l) th ∨ PartAt b l f j s top th := by
  match i, h with
  | 0, h => rw [h]; exact .inl (small_sq (by omega) (by omega))
  | m + 1, h => exact .inr (.inl ⟨m, g, u, v, by omega, hg, by rw [h, hX, hY]⟩)
/-- All that a leap asks for, by its places. -/
theorem dem_part {b l : Int} {f : PlaneF} {th : Th} {j s top : Nat} : ∀ {n : Nat} {X Y U V : Int}, j ≤ n → n + 2 ≤ top → X = U * 2 ^ n → Y = V * 2 ^ n → Dem b l n j (treeAt (n + 2) (iterP b l s f) X Y) th → SmallTh (codeR b l) th ∨ PartAt b l f j s top th ∨ FullAt b l f j s 0 0 th := by
  intro n
  induction n with
  | zero =>
    intro X Y U V hj htop hX hY h
    obtain rfl : j = 0 := by omega
    rcases dem_full h with h | h | h
    · exact .inl h
    · exact .inl (.inr (.inr ⟨_, full_at, h⟩))
    · rw [hX, hY] at h; exact .inr (.inr h.home)
  | succ i ih =>
    intro X Y U V hj htop hX hY h
    by_cases hji : j = i + 1
    · subst hji
      rcases dem_full h with h | h | h
      · exact .inl h
      · exact .inr (.inl (.inr ⟨i, U, V, htop, by rw [h, hX, hY]⟩))
      · rw [hX, hY] at h; exact .inr (.inr h.home)
    · have hji' : j ≤ i := by omega
      have hn : ∀ y x, y < 3 → x < 3 → sqG (gridT (treeAt (i + 3) (iterP b l s f) X Y)) y x = treeAt (i + 2) (iterP b l s f) (X + x * 2 ^ (i + 1)) (Y + y * 2 ^ (i + 1)) := fun y x hy hx => sq_at (n := i + 1) (k := 4) (fun y x hy hx => grid_at hy hx) (by omega) (by omega)
      have hr : ∀ y x, y < 3 → x < 3 → (if j = i + 1 then leapT b l i (j - 1) (sqG (gridT (treeAt (i + 3) (iterP b l s f) X Y)) y x) else midT (sqG (gridT (treeAt (i + 3) (iterP b l s f) X Y)) y x)) = treeAt (i + 1) (iterP b l s f) (X + 2 ^ i + x * 2 ^ (i + 1)) (Y + 2 ^ i + y * 2 ^ (i + 1)) := fun y x hy hx => by
        rw [if_neg hji, hn y x hy hx, mid_at, Int.add_right_comm, Int.add_right_comm Y]
      have hq := fun y x (hy : y < 2) (hx : x < 2) => sq_at (y := y) (x := x) (k := 3) hr (by omega) (by omega)
      have p2 : (2 : Int) ^ (i + 1) = 2 * 2 ^ i := by rw [Int.pow_succ]; omega
      have e1 : ∀ (W : Int) (c : Nat), W * 2 ^ (i + 1) + c * 2 ^ (i + 1) = (2 * W + 2 * c) * 2 ^ i := fun W c => by rw [p2, Int.add_mul, ← Int.mul_assoc, ← Int.mul_assoc, Int.mul_comm W 2, Int.mul_comm (c : Int) 2]
      have e2 : ∀ (W : Int) (c : Nat), W * 2 ^ (i + 1) + 2 ^ i + c * 2 ^ (i + 1) = (2 * W + 2 * c + 1) * 2 ^ i := fun W c => by rw [Int.add_mul _ 1, Int.one_mul, ← e1]; omega
      have o1 : ∀ W : Int, W * 2 ^ (i + 1) + 2 ^ (i + 1) = (2 * W + 2) * 2 ^ i := fun W => by rw [p2, Int.add_mul, ← Int.mul_assoc, Int.mul_comm W 2]
      have up : SmallTh (codeR b l) th ∨ PartAt b l f j s top th → SmallTh (codeR b l) th ∨ PartAt b l f j s top th ∨ FullAt b l f j s 0 0 th := fun h => h.imp id .inl
      rcases h with h | h | ⟨y, x, hy, hx, h | h⟩ | ⟨y, x, hy, hx, h | h⟩
      · exact .inr (.inl (.inr ⟨i, U, V, htop, by rw [h, hX, hY]⟩))
      · rw [leap_at (by omega), ← iterP_add, Nat.add_comm (2 ^ j) s] at h
        rw [hX, hY, o1, o1] at h
        exact up (part_sq (g := 1) rfl rfl (by rw [h, Nat.one_mul]) (by omega) (by omega))
      · rw [hn y x hy hx] at h
        rw [hX, hY, e1, e1] at h
        exact up (part_sq (g := 0) rfl rfl (by rw [h, Nat.zero_mul]; rfl) (by omega) (by omega))
      · rw [if_neg hji, hn y x hy hx, mid_at] at h
        rw [hX, hY, e1, e1] at h
        match i, h with
        | 0, h => rw [h]; exact .inl (small_sq (by omega) (by omega))
        | k + 1, h =>
          have p3 : (2 : Int) ^ (k + 1) = 2 * 2 ^ k := by rw [Int.pow_succ]; omega
          have e3 : ∀ W : Int, W * 2 ^ (k + 1) + 2 ^ (k + 1) = (2 * W + 2) * 2 ^ k := fun W => by rw [p3, Int.add_mul, ← Int.mul_assoc, Int.mul_comm W 2]
          rw [e3, e3] at h
          exact up (part_sq (g := 0) rfl rfl (by rw [h, Nat.zero_mul]; rfl) (by omega) (by omega))
      · rw [hq y x hy hx, hX, hY, e2, e2] at h
        exact up (part_sq (g := 0) rfl rfl (by rw [h, Nat.zero_mul]; rfl) (by omega) (by omega))
      · rw [if_neg hji, hq y x hy hx, hX, hY, e2, e2] at h
        exact ih hji' (by omega) rfl rfl h
/-! ### Lists of them -/
theorem flat_empty : ∀ (b l : Int) (_ : livesF b l false 0 = false) (k : Nat) (x y : Int), iterP b l k (fun _ _ => false) x y = false
  | _, _, _, 0, _, _ => rfl
  | b, l, hb, k + 1, x, y => by
    have ih := flat_empty b l hb k
    show livesF b l _ (nearP _ x y) = false
    unfold nearP
    simp only [ih]
    exact hb
/-- All that lives lies so near. -/
def Near (R : Nat) (f : PlaneF) : Prop := ∀ x y, f x y = true → -(R : Int) ≤ x ∧ x ≤ R ∧ -(R : Int) ≤ y ∧ y ≤ R
theorem Near.iter {b l : Int} {R : Nat} {f : PlaneF} (h : Near R f) (hb : livesF b l false 0 = false) (k : Nat) : Near (R + k) (iterP b l k f) := by
  intro x y hxy
  refine Classical.byContradiction fun hn => ?_
  have : iterP b l k f x y = iterP b l k (fun _ _ => false) x y := iterP_local b l k _ _ x y fun u v h1 h2 h3 h4 => by
    cases hf : f u v with
    | false => rfl
    | true =>
      have := h u v hf
      exfalso; apply hn; rw [Int.natCast_add]; omega
  rw [this, flat_empty b l hb k x y] at hxy
  cases hxy
theorem empty_at : ∀ {n : Nat} {f : PlaneF} {X Y : Int}, (∀ x y, X ≤ x → x < X + 2 ^ n → Y ≤ y → y < Y + 2 ^ n → f x y = false) → treeAt n f X Y = emptyT n
  | 0, f, X, Y, h => by
    have e : (2 : Int) ^ 0 = 1 := rfl
    rw [treeAt, h X Y (by omega) (by rw [e]; omega) (by omega) (by rw [e]; omega)]; rfl
  | n + 1, f, X, Y, h => by
    have e := pow_half n
    have hp := pow_pos2 n
    rw [treeAt, empty_at fun x y h1 h2 h3 h4 => h x y (by omega) (by omega) (by omega) (by omega), empty_at fun x y h1 h2 h3 h4 => h x y (by omega) (by omega) (by omega) (by omega), empty_at fun x y h1 h2 h3 h4 => h x y (by omega) (by omega) (by omega) (by omega), empty_at fun x y h1 h2 h3 h4 => h x y (by omega) (by omega) (by omega) (by omega)]; rfl
def posL (lo sp c : Int) (n : Nat) : List Int := (List.range n).map fun (i : Nat) => lo + (c - lo) % sp + sp * (i : Int)
theorem posL_mem {lo sp c u x : Int} {n : Nat} (hs : 0 < sp) (hx : x = c + u * sp) (h1 : lo ≤ x) (h2 : x < lo + sp * n) : x ∈ posL lo sp c n := by
  unfold posL
  rw [List.mem_map]
  have hd := Int.mul_ediv_add_emod (c - lo) sp
  have hr := Int.emod_nonneg (c - lo) (show sp ≠ 0 by omega)
  have hr2 := Int.emod_lt_of_pos (c - lo) hs
  obtain ⟨q, hq⟩ : ∃ q, q = (c - lo) / sp := ⟨_, rfl⟩
  obtain ⟨r, hrr⟩ : ∃ r, r = (c - lo) % sp := ⟨_, rfl⟩
  rw [← hrr] at hr hr2
  rw [← hq, ← hrr] at hd
  have hx2 : x = lo + r + sp * (q + u) := by rw [Int.mul_add, Int.mul_comm sp u]; omega
  have hge : 0 ≤ q + u := by
    refine Classical.byContradiction fun hn => ?_
    have : sp * (q + u) ≤ sp * (-1) := Int.mul_le_mul_of_nonneg_left (by omega) (by omega)
    omega
  refine ⟨(q + u).toNat, ?_, ?_⟩
  · rw [List.mem_range]
    refine Classical.byContradiction fun hn => ?_
    have : sp * (n : Int) ≤ sp * (q + u) := Int.mul_le_mul_of_nonneg_left (by omega) (by omega)
    omega
  · rw [← hrr, Int.toNat_of_nonneg hge]; exact hx2.symm
def cntP (R m sp : Nat) : Nat := (2 * R + 2 ^ m) / sp + 1
/-- The squares of a level on a lattice that are near. -/
def sqL (m : Nat) (f : PlaneF) (R sp : Nat) (c : Int) : List Tree :=
  (posL (-(R : Int) - 2 ^ m + 1) sp c (cntP R m sp)).flatMap fun X => (posL (-(R : Int) - 2 ^ m + 1) sp c (cntP R m sp)).map fun Y => treeAt m f X Y
theorem sqL_len (m : Nat) (f : PlaneF) (R sp : Nat) (c : Int) : (sqL m f R sp c).length = cntP R m sp * cntP R m sp := by
  unfold sqL
  rw [List.length_flatMap]
  simp only [List.length_map]
  have h : ∀ (n k : Nat), ((List.range n).map fun _ => k).sum = n * k := fun n k => by
    rw [List.map_const', List.length_range, List.sum_replicate_nat]
  unfold posL
  simp only [List.length_map, List.length_range, List.map_map]
  exact h _ _
theorem sqL_mem {m : Nat} {f : PlaneF} {R sp : Nat} {c u v X Y : Int} (h : Near R f) (hs : 0 < sp) (hX : X = c + u * sp) (hY : Y = c + v * sp) : treeAt m f X Y = emptyT m ∨ treeAt m f X Y ∈ sqL m f R sp c := by
  by_cases hin : (-(R : Int) - 2 ^ m + 1 ≤ X ∧ X ≤ R) ∧ (-(R : Int) - 2 ^ m + 1 ≤ Y ∧ Y ≤ R)
  · right
    have hc : (2 * R + 2 ^ m : Nat) < sp * cntP R m sp := by
      unfold cntP
      have := Nat.lt_mul_div_succ (2 * R + 2 ^ m) hs
      exact this
    have hc' : (2 * R + 2 ^ m : Int) < (sp : Int) * (cntP R m sp : Nat) := by
      have := Int.ofNat_lt.2 hc
      rw [Int.natCast_mul, Int.natCast_add, Int.natCast_mul, Int.natCast_pow] at this
      exact this
    unfold sqL
    rw [List.mem_flatMap]
    refine ⟨X, posL_mem (by omega) hX hin.1.1 (by omega), List.mem_map.2 ⟨Y, posL_mem (by omega) hY hin.2.1 (by omega), rfl⟩⟩
  · left
    refine empty_at fun x y h1 h2 h3 h4 => ?_
    cases hf : f x y with
    | false => rfl
    | true =>
      have := h x y hf
      exfalso; apply hin; omega
end Go.Proofs.Ytabhpbkkjijfjaa
