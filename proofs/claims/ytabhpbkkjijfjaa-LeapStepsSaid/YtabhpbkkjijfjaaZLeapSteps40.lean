/-
  Roots that show a plane: wrapped, peeled, leapt: plain; leap.Leap, with a good rule.
-/
import Derived.Test.YtabhpbkkjijfjaaZLeapSteps39
import Derived.Test.YtabhpbkkjijfjaaZLeapSteps35
import Derived.Test.YtabhpbkkjijfjaaZLeapSteps38
namespace Go.Proofs.Ytabhpbkkjijfjaa
set_option maxRecDepth 100000

/-- A root of a level shows just what lives in a plane. -/
structure Shows (n : Nat) (T : Tree) (g : PlaneF) : Prop where
  full : Full n T
  ok : ∀ x y, g x y = true ↔ (x, y) ∈ cellsT n T (-(2 ^ (n - 1))) (-(2 ^ (n - 1)))
section
variable {n : Nat} {T : Tree} {g : PlaneF}
theorem Shows.plane (h : Shows n T g) : planeT n T (-(2 ^ (n - 1))) (-(2 ^ (n - 1))) = g := by
  funext x y
  rw [planeT_cells h.full]
  cases hg : g x y with
  | true => exact decide_eq_true ((h.ok x y).1 hg)
  | false => exact decide_eq_false fun e => by have := (h.ok x y).2 e; rw [hg] at this; cases this
theorem Shows.at_ (h : Shows n T g) : T = treeAt n g (-(2 ^ (n - 1))) (-(2 ^ (n - 1))) := by
  have := agree_at h.full (planeT_agree n T (-(2 ^ (n - 1))) (-(2 ^ (n - 1))))
  rwa [h.plane] at this
theorem Shows.agree (h : Shows n T g) : Agree n T g (-(2 ^ (n - 1))) (-(2 ^ (n - 1))) := by
  have := planeT_agree n T (-(2 ^ (n - 1))) (-(2 ^ (n - 1)))
  rwa [h.plane] at this
theorem shows_of {n : Nat} {T : Tree} {g : PlaneF} (hf : Full n T) (ha : Agree n T g (-(2 ^ (n - 1))) (-(2 ^ (n - 1)))) (hin : ∀ x y, g x y = true → -(2 ^ (n - 1)) ≤ x ∧ x < -(2 ^ (n - 1)) + 2 ^ n ∧ -(2 ^ (n - 1)) ≤ y ∧ y < -(2 ^ (n - 1)) + 2 ^ n) : Shows n T g := by
  obtain ⟨X, hX⟩ : ∃ X : Int, X = -(2 ^ (n - 1)) := ⟨_, rfl⟩
  refine ⟨hf, fun x y => ?_⟩
  rw [← hX] at ha hin ⊢
  constructor
  · intro hg
    have h1 := hin x y hg
    have := (mem_get hf (x := x - X) (y := y - X) (by omega) (by omega) (by omega) (by omega) X X)
    rw [show X + (x - X) = x by omega, show X + (y - X) = y by omega] at this
    refine this.2 ?_
    rw [← ha (x - X) (y - X) (by omega) (by omega) (by omega) (by omega), show X + (x - X) = x by omega, show X + (y - X) = y by omega]
    exact hg
  · intro hm
    have h1 := cellsT_in hm
    simp only at h1
    have := (mem_get hf (x := x - X) (y := y - X) (by omega) (by omega) (by omega) (by omega) X X)
    rw [show X + (x - X) = x by omega, show X + (y - X) = y by omega] at this
    have hg := this.1 hm
    rw [← ha (x - X) (y - X) (by omega) (by omega) (by omega) (by omega), show X + (x - X) = x by omega, show X + (y - X) = y by omega] at hg
    exact hg
theorem Shows.in_ (h : Shows n T g) {x y : Int} (hg : g x y = true) : -(2 ^ (n - 1)) ≤ x ∧ x < -(2 ^ (n - 1)) + 2 ^ n ∧ -(2 ^ (n - 1)) ≤ y ∧ y < -(2 ^ (n - 1)) + 2 ^ n := by
  have := cellsT_in ((h.ok x y).1 hg)
  exact this
end
theorem cast_two (n : Nat) : ((2 ^ n : Nat) : Int) = 2 ^ n := Int.natCast_pow 2 n
theorem pow_pred {n : Nat} (h : 1 ≤ n) : (2 : Int) ^ n = 2 ^ (n - 1) + 2 ^ (n - 1) := by
  obtain ⟨m, rfl⟩ : ∃ m, n = m + 1 := ⟨n - 1, by omega⟩
  rw [Nat.add_sub_cancel]; exact pow_half m
/-- Wrapped. -/
theorem Shows.wrap {n : Nat} {T : Tree} {g : PlaneF} (h : Shows (n + 1) T g) : Shows (n + 2) (wrapN n T) g := by
  match T, h with
  | .leaf _, h => exact h.full.elim
  | .node a b c d, h =>
    obtain ⟨ha, hb, hc, hd⟩ := h.full
    have he := full_empty n
    refine ⟨⟨⟨he, he, he, ha⟩, ⟨he, he, hb, he⟩, ⟨he, hc, he, he⟩, hd, he, he, he⟩, fun x y => ?_⟩
    rw [h.ok]
    show _ ↔ (x, y) ∈ cellsT (n + 2) (wrapT n a b c d) (-(2 ^ (n + 1))) (-(2 ^ (n + 1)))
    rw [cellsT_wrap, pow_half, show -((2 : Int) ^ n + 2 ^ n) + 2 ^ n = -(2 ^ n) by omega]
    exact Iff.rfl
theorem Shows.up {l : Nat} {T : Tree} {g : PlaneF} (hl : 1 ≤ l) (h : Shows l T g) : ∀ k, Shows (l + k) (upT k l T) g
  | 0 => h
  | k + 1 => by
    have ih := Shows.up hl h k
    obtain ⟨n, hn⟩ : ∃ n, l + k = n + 1 := ⟨l + k - 1, by omega⟩
    show Shows (l + k + 1) (wrapN (l + k - 1) (upT k l T)) g
    rw [hn] at ih ⊢
    exact ih.wrap
/-- Peeled. -/
theorem Shows.peel {n : Nat} {T : Tree} {g : PlaneF} (h2 : 2 ≤ n) (h : Shows n T g) : Shows (peelL n T) (peelT n T) g := by
  obtain ⟨m, rfl⟩ : ∃ m, n = m + 2 := ⟨n - 2, by omega⟩
  obtain ⟨h1, _, _, h4⟩ := peel_cells m T h.full
  refine ⟨h1, fun x y => ?_⟩
  rw [h.ok, ← h4]; exact Iff.rfl
theorem Shows.inner {n : Nat} {T : Tree} {g : PlaneF} (h : Shows (n + 3) T g) (hf : fitsT T = true) : Shows (n + 2) (innerT T) g := by
  obtain ⟨a, b, c, d, e1, e2, _⟩ := fits_wrap (n := n + 1) h.full hf
  refine ⟨full_inner (n := n + 1) h.full hf, fun x y => ?_⟩
  rw [h.ok, e2, e1]
  show (x, y) ∈ cellsT (n + 1 + 2) (wrapT (n + 1) a b c d) (-(2 ^ (n + 2))) (-(2 ^ (n + 2))) ↔ (x, y) ∈ cellsT (n + 2) (.node a b c d) (-(2 ^ (n + 1))) (-(2 ^ (n + 1)))
  rw [cellsT_wrap, pow_half (n + 1), show -((2 : Int) ^ (n + 1) + 2 ^ (n + 1)) + 2 ^ (n + 1) = -(2 ^ (n + 1)) by omega]
theorem peelD_shows {g : PlaneF} {X : Tree} : ∀ {n : Nat} {T : Tree}, Shows (n + 2) T g → PeelD (n + 2) T X → ∃ k, 2 ≤ k ∧ k < n + 2 ∧ Shows k X g
  | 0, _, _, h => h.elim
  | n + 1, T, hs, ⟨hf, h⟩ => by
    rcases h with rfl | h
    · exact ⟨n + 2, by omega, by omega, hs.inner hf⟩
    · obtain ⟨k, h1, h2, h3⟩ := peelD_shows (hs.inner hf) h
      exact ⟨k, h1, by omega, h3⟩
theorem peel_stop : ∀ (n : Nat) (T : Tree), Full (n + 2) T → peelL (n + 2) T = 2 ∨ fitsT (peelT (n + 2) T) = false
  | 0, T, _ => .inl rfl
  | n + 1, T, h => by
    unfold peelL peelT
    split
    · next hf => exact peel_stop n (innerT T) (full_inner (n := n + 1) h hf)
    · next hf => right; cases hh : fitsT T with
      | true => exact absurd hh hf
      | false => rfl
/-- Peeled twice is peeled. -/
theorem peel_again {n : Nat} {T : Tree} (h2 : 2 ≤ n) (h : Full n T) : peelT (peelL n T) (peelT n T) = peelT n T ∧ peelL (peelL n T) (peelT n T) = peelL n T := by
  obtain ⟨m, rfl⟩ : ∃ m, n = m + 2 := ⟨n - 2, by omega⟩
  obtain ⟨_, h1, _, _⟩ := peel_cells m T h
  rcases peel_stop m T h with e | e
  · rw [e]; exact ⟨rfl, rfl⟩
  · obtain ⟨k, hk⟩ : ∃ k, peelL (m + 2) T = k + 2 := ⟨peelL (m + 2) T - 2, by omega⟩
    rw [hk]
    match k with
    | 0 => exact ⟨rfl, rfl⟩
    | k + 1 =>
      constructor
      · rw [peelT, if_neg (by rw [e]; decide)]
      · rw [peelL, if_neg (by rw [e]; decide)]
theorem fits_of {a0 a1 a2 a3 b0 b1 b2 b3 c0 c1 c2 c3 d0 d1 d2 d3 : Tree} (h1 : emB a0 = true) (h2 : emB a1 = true) (h3 : emB a2 = true) (h4 : emB b0 = true) (h5 : emB b1 = true) (h6 : emB b3 = true) (h7 : emB c0 = true) (h8 : emB c2 = true) (h9 : emB c3 = true) (h10 : emB d1 = true) (h11 : emB d2 = true) (h12 : emB d3 = true) : fitsT (.node (.node a0 a1 a2 a3) (.node b0 b1 b2 b3) (.node c0 c1 c2 c3) (.node d0 d1 d2 d3)) = true := by
  show (emB a0 && emB a1 && emB a2 && (emB b0 && emB b1 && emB b3) && (emB c0 && emB c2 && emB c3) && (emB d1 && emB d2 && emB d3)) = true
  rw [h1, h2, h3, h4, h5, h6, h7, h8, h9, h10, h11, h12]; rfl
/-- The least level is no more than one that reaches all that lives. -/
theorem Shows.low {n p : Nat} {T : Tree} {g : PlaneF} (h : Shows (n + 3) T g) (hp : p ≤ n + 2) (h1 : 1 ≤ p) (hin : ∀ x y, g x y = true → -(2 ^ (p - 1)) ≤ x ∧ x < 2 ^ (p - 1) ∧ -(2 ^ (p - 1)) ≤ y ∧ y < 2 ^ (p - 1)) : fitsT T = true := by
  have hle : (2 : Int) ^ (p - 1) ≤ 2 ^ (n + 1) := by
    have : 2 ^ (p - 1) ≤ 2 ^ (n + 1) := Nat.pow_le_pow_right (by omega) (by omega)
    have h := Int.ofNat_le.2 this
    rwa [Int.natCast_pow, Int.natCast_pow] at h
  have hin' : ∀ x y, g x y = true → -(2 ^ (n + 1)) ≤ x ∧ x < 2 ^ (n + 1) ∧ -(2 ^ (n + 1)) ≤ y ∧ y < 2 ^ (n + 1) := fun x y hg => by have := hin x y hg; omega
  have hT := h.at_
  have e1 : (2 : Int) ^ (n + 2) = 2 ^ (n + 1) + 2 ^ (n + 1) := pow_half (n + 1)
  have e2 := pow_half n
  have hq := pow_pos2 (n + 1)
  rw [show n + 3 - 1 = n + 2 from rfl] at hT
  have hem : ∀ X Y, (∀ x y, X ≤ x → x < X + 2 ^ (n + 1) → Y ≤ y → y < Y + 2 ^ (n + 1) → ¬ (-(2 ^ (n + 1)) ≤ x ∧ x < 2 ^ (n + 1) ∧ -(2 ^ (n + 1)) ≤ y ∧ y < 2 ^ (n + 1))) → emB (treeAt (n + 1) g X Y) = true := fun X Y hh => by
    rw [empty_at fun x y h1 h2 h3 h4 => by
      cases hg : g x y with
      | false => rfl
      | true => exact absurd (hin' x y hg) (hh x y h1 h2 h3 h4)]
    exact emB_empty _
  rw [hT, treeAt, treeAt, treeAt, treeAt, treeAt]
  refine fits_of (hem _ _ ?_) (hem _ _ ?_) (hem _ _ ?_) (hem _ _ ?_) (hem _ _ ?_) (hem _ _ ?_) (hem _ _ ?_) (hem _ _ ?_) (hem _ _ ?_) (hem _ _ ?_) (hem _ _ ?_) (hem _ _ ?_) <;> intro x y _ _ _ _ <;> omega
theorem Shows.least {p : Nat} {g : PlaneF} (h2 : 2 ≤ p) (hin : ∀ x y, g x y = true → -(2 ^ (p - 1)) ≤ x ∧ x < 2 ^ (p - 1) ∧ -(2 ^ (p - 1)) ≤ y ∧ y < 2 ^ (p - 1)) : ∀ {n : Nat} {T : Tree}, Shows (n + 2) T g → peelL (n + 2) T ≤ p
  | 0, _, _ => h2
  | n + 1, T, h => by
    by_cases hp : p ≤ n + 2
    · rw [peelL, if_pos (h.low hp (by omega) hin)]
      exact Shows.least h2 hin (h.inner (h.low hp (by omega) hin))
    · obtain ⟨_, _, h3, _⟩ := peel_cells (n + 1) T h.full
      omega
/-- Leapt: where the root is wrapped often enough, nothing is lost. -/
theorem Shows.leap {b l : Int} {n j q : Nat} {T : Tree} {g : PlaneF} (h : Shows (n + 2) T g) (hb : livesF b l false 0 = false) (hj : j + 1 ≤ n) (hq : q ≤ n) (h1 : 1 ≤ q) (hin : ∀ x y, g x y = true → -(2 ^ (q - 1)) ≤ x ∧ x < 2 ^ (q - 1) ∧ -(2 ^ (q - 1)) ≤ y ∧ y < 2 ^ (q - 1)) : Shows (n + 1) (leapT b l n j T) (iterP b l (2 ^ j) g) := by
  have hL := leapT_ok (b := b) (l := l) h.full (show j ≤ n by omega)
  have ha := hL.ok g _ _ h.agree
  rw [show n + 2 - 1 = n + 1 from rfl, pow_half, show -((2 : Int) ^ n + 2 ^ n) + 2 ^ n = -(2 ^ n) by omega] at ha
  refine shows_of hL.full ha fun x y hg => ?_
  have hle : (2 : Int) ^ (q - 1) ≤ 2 ^ (n - 1) := by
    have : 2 ^ (q - 1) ≤ 2 ^ (n - 1) := Nat.pow_le_pow_right (by omega) (by omega)
    have h := Int.ofNat_le.2 this
    rwa [Int.natCast_pow, Int.natCast_pow] at h
  have hle2 : (2 : Int) ^ j ≤ 2 ^ (n - 1) := by
    have : 2 ^ j ≤ 2 ^ (n - 1) := Nat.pow_le_pow_right (by omega) (by omega)
    have h := Int.ofNat_le.2 this
    rwa [Int.natCast_pow, Int.natCast_pow] at h
  have e := pow_pred (show 1 ≤ n by omega)
  have e1 := pow_half n
  rw [show n + 1 - 1 = n from rfl]
  refine Classical.byContradiction fun hn => ?_
  have : iterP b l (2 ^ j) g x y = iterP b l (2 ^ j) (fun _ _ => false) x y := iterP_local b l (2 ^ j) _ _ x y fun u v h1 h2 h3 h4 => by
    rw [cast_two] at h1 h2 h3 h4
    cases hf : g u v with
    | false => rfl
    | true =>
      have := hin u v hf
      exfalso; apply hn; omega
  rw [this, flat_empty b l hb] at hg
  cases hg
end Go.Proofs.Ytabhpbkkjijfjaa
namespace Go.Proofs.Ytabhpbkkjijfjaa
set_option maxRecDepth 100000
open Go.RowKit

def goalL (l0 j : Nat) : Nat := max (l0 + 2) (j + 3)
/-- What result makes of the wrapped root; its level is goalL less 1. -/
def leapR (B Lv : Int) (l0 j : Nat) (T0 : Tree) : Tree := leapT B Lv (goalL l0 j - 2) j (upT (goalL l0 j - l0) l0 T0)
/-- All that a leap asks for. -/
def LeapD (B Lv : Int) (l0 j : Nat) (T0 : Tree) (th : Th) : Prop :=
  (∃ k T', 1 ≤ k ∧ k ≤ goalL l0 j - l0 ∧ Sub T' (upT k l0 T0) ∧ th = .sq T') ∨ Dem B Lv (goalL l0 j - 2) j (upT (goalL l0 j - l0) l0 T0) th ∨ (∃ X, PeelD (goalL l0 j - 1) (leapR B Lv l0 j T0) X ∧ th = .sq X)
theorem goodF_in {b l : Int} (h : goodF b l = true) : 0 ≤ b ∧ b < 512 ∧ 0 ≤ l ∧ l < 512 := by
  unfold goodF at h
  simp only [Bool.and_eq_true, decide_eq_true_eq] at h
  omega
theorem LGets.late {U : Th → Prop} {w V : World} {F : Nat → Prop} {b t n : Nat} {S : ArS} {T : Tree} {e : Ending} {w' : World} (h : LGets U V F b t S n T e w') (hV : Below w.heap.size w V) : LGets U w F b t S n T e w' := by
  obtain ⟨r, er, S', F', h1, h2, h3, h4, h5, h6, h7, h8⟩ := h
  refine ⟨r, er, S', F', h1, h2, h3, h4, h5, h6, fun i hi => ?_, (Keeps.of_below hV).trans h8 fun i _ hi => hi⟩
  rcases h7 i hi with g | g
  · exact .inl g
  · exact .inr (Nat.le_trans hV.size g)
set_option maxHeartbeats 8000000 in
set_option maxRecDepth 100000 in
theorem leap_by (HRES : ∀ n, n + 2 ≤ 44 → ResOk n) {U : Th → Prop} (b t : Nat) (S : ArS) (F : Nat → Prop) (B Lv : Int) (l0 j : Nat) (T0 : Tree) (id : Int) (w : World) (h : IsAr b S w F) (wf : Wf S.L) (hnote : NoteI S.L) (ht : t < 64) (hB : goodF B Lv = true) (hj : j ≤ 30) (hd : Den S.L t l0 T0 id) (h2 : 2 ≤ l0) (h42 : l0 ≤ 42) (hU : ∀ th, LeapD B Lv l0 j T0 th → U th) :
    Calls Try.prog 16 #[.pointer (some ⟨b, 0, none⟩), .int .i64 t, .agg #[.int .i64 B, .int .i64 Lv], .int .i64 id, .int .i64 (j : Int)] w (LGets U w F b t S (peelL (goalL l0 j - 1) (leapR B Lv l0 j T0)) (peelT (goalL l0 j - 1) (leapR B Lv l0 j T0))) := by
  have hBL := goodF_in hB
  obtain ⟨gl, hgl⟩ : ∃ g, g = goalL l0 j := ⟨_, rfl⟩
  have hge : l0 + 2 ≤ gl ∧ j + 3 ≤ gl ∧ gl ≤ 44 := by rw [hgl]; unfold goalL; omega
  have hmax : max ((l0 : Int) + 2) ((j : Int) + 3) = (gl : Int) := by rw [hgl]; unfold goalL; omega
  obtain ⟨X, hX⟩ : ∃ X, X = w.alloc (.cells #[.int .i64 B, .int .i64 Lv] 23 (0, 0)) := ⟨_, rfl⟩
  have hbX : Below w.heap.size w X := by rw [hX]; exact (Below.refl _ _).alloc (Nat.le_refl _) _
  have hrx : X.heap[w.heap.size]? = some (.cells #[.int .i64 B, .int .i64 Lv] 23 (0, 0)) := by rw [hX]; exact blk_last w _ rfl
  obtain ⟨rb, hrb⟩ : ∃ r, r = w.heap.size := ⟨_, rfl⟩
  have hG := good_any B Lv X
  rw [hB] at hG
  have HG := Lib.hid hG
  have hLV := level_any b S F t id
  rw [hd.levelA h.ok ht] at hLV
  have HLV := Lib.hid hLV
  have HI := Lib.hid h
  have HD := Lib.hid hd
  have HXE := Lib.hid hX
  have HRB := Lib.hid hrb
  have HBX := Lib.hid hbX
  have HRX := Lib.hid hrx
  have HGL := Lib.hid hgl
  have HW := Lib.hid (show Wf S.L ∧ NoteI S.L from ⟨wf, hnote⟩)
  have HU := Lib.hid hU
  have l1 : X.cell? ⟨rb, 0, none⟩ = some (.int .i64 B) := by rw [hrb]; exact Joins.cell_of_block hrx 0
  have l2 : X.cell? ⟨rb, 1, none⟩ = some (.int .i64 Lv) := by rw [hrb]; exact Joins.cell_of_block hrx 1
  have t1 : decide ((j : Int) < 0) = false := decide_eq_false (by omega)
  have t2 : decide ((j : Int) > 30) = false := decide_eq_false (by omega)
  have t3 : decide ((l0 : Int) < 2) = false := decide_eq_false (by omega)
  have t4 : decide ((l0 : Int) > 42) = false := decide_eq_false (by omega)
  have t5 : decide (l0 < 2) = false := decide_eq_false (by omega)
  have t6 : decide (42 < l0) = false := decide_eq_false (by omega)
  have t7 : decide (30 < j) = false := decide_eq_false (by omega)
  clear h wf hnote hB hd hU hLV hG hX hbX hrx hgl hrb
  go_enter Try.func16, Try.ntmps16
  go_upto_region 1 with fail
  rw [← HXE.out, ← HRB.out]
  go_wp2_with fail
  with_reducible refine HG.out.mono ?_
  rintro e w1 ⟨rfl, hb1⟩
  have hi1 := (HI.out.below HBX.out).below hb1
  have HB1 := Lib.hid (show Below w.heap.size w w1 from HBX.out.trans (hb1.mono HBX.out.size))
  have HLV1 := Lib.hid (HLV.out w1 hi1)
  have HR1 := Lib.hid (show w1.heap[rb]? = some (.cells #[.int .i64 B, .int .i64 Lv] 23 (0, 0)) from by rw [HRB.out]; exact (hb1.block _ (lt_of_block HRX.out)).trans HRX.out)
  have HI1 := Lib.hid hi1
  clear hb1 hi1 l1 l2
  go_wp2_with fail
  with_reducible refine HLV1.out.mono ?_
  rintro e w2 ⟨rfl, hw2⟩
  subst hw2
  have HL0 : Aside (WrSt U w2 F b t S l0 T0 0 id S F w2) := ⟨HI1.out, LRes.refl HW.out.1, HD.out, fun i hi => .inl hi, Keeps.refl _ _, HI1.out.lt⟩
  have HRF := Lib.hid (show ¬ F rb ∧ rb < w2.heap.size from ⟨fun e => by have := HI.out.lt _ e; have := HRB.out; omega, lt_of_block HR1.out⟩)
  obtain ⟨V, hV⟩ : ∃ V, V = w2 := ⟨_, rfl⟩
  rw [← hV] at HL0 HRF HR1 HB1
  have HVE := Lib.hid hV
  clear hV
  go_upto_region 11 with fail
  clear t1 t2 t3 t4 t5 t6 t7 hmax
  go_loopw [3, 10, 11, 12, 13] (fun rv r10 r11 lvv ev ws => ∃ (k : Nat) (idk : Int) (S1 : ArS) (F1 : Nat → Prop), rv = .int .i64 idk ∧ r10 = .int .i64 0 ∧ r11 = .int .i64 0 ∧ lvv = .int .i64 ((l0 + k : Nat) : Int) ∧ ev = .int .i64 0 ∧ Aside (l0 + k ≤ gl ∧ WrSt U V F b t S l0 T0 k idk S1 F1 ws)) (fun _ _ _ lvv _ _ => gl - (intOf lvv).toNat)
  case atStart => exact ⟨0, id, S, F, rfl, rfl, rfl, rfl, rfl, by omega, HVE.out ▸ HL0.out⟩
  case round =>
    obtain ⟨k, idk, S1, F1, rfl, rfl, rfl, rfl, rfl, hq⟩ := hrel
    have HQ := Lib.hid hq.out
    obtain ⟨lk, hlk⟩ : ∃ m, m = l0 + k := ⟨_, rfl⟩
    have HLK := Lib.hid hlk
    rw [← hlk]
    by_cases hlt : lk < gl
    · have HC := Lib.hid (wst_call HQ.out.2 h2 (by omega) ht (fun T' hs => HU.out _ (.inl ⟨k + 1, T', by omega, by have := HGL.out; omega, hs, rfl⟩)))
      have HLT := Lib.hid hlt
      have t1 : decide ((lk : Int) < (gl : Int)) = true := decide_eq_true (by omega)
      have t2 : decide (lk < gl) = true := decide_eq_true hlt
      clear hq hlk
      go_wp2_with fail
      with_reducible refine HC.out.mono ?_
      rintro e w3 ⟨r, er, S2, F2, rfl, g1, g2, g3, g5, g6, g7⟩
      by_cases he : er = 0
      · subst he
        have HWS : Aside (WrSt U V F b t S l0 T0 (k + 1) r S2 F2 w3) := ⟨g5, g2, g3 rfl, g6, g7, HQ.out.2.lt⟩
        clear g1 g2 g3 g5 g6 g7
        go_wp2_with fail
        go_roundw
        case rel => exact ⟨k + 1, r, S2, F2, rfl, rfl, rfl, by rw [show ((l0 + (k + 1) : Nat) : Int) = (lk : Int) + 1 by have := HLK.out; omega], rfl, by have := HLT.out; have := HLK.out; omega, HWS.out⟩
        case measure => have := HLT.out; simp [intOf]; omega
      · have v1 : (er == 0) = false := by simpa using he
        have v2 : (er != 0) = true := by simpa using he
        have HE : Aside (LGets U w F b t S (peelL (goalL l0 j - 1) (leapR B Lv l0 j T0)) (peelT (goalL l0 j - 1) (leapR B Lv l0 j T0)) (.returned (.tuple #[.int .i64 0, .int .i64 er])) w3) := LGets.late ⟨0, er, S2, F2, rfl, by unfold I64; omega, g2, fun e => absurd e he, fun _ => rfl, g5, g6, g7⟩ HB1.out
        clear g1 g2 g3 g5 g6 g7 he
        go_wp2_with fail
        go_ret2
        exact HE.out
    · obtain ⟨n, hn⟩ : ∃ n, gl = n + 2 := ⟨gl - 2, by omega⟩
      have hlk2 : lk = n + 2 := by have := HQ.out.1; omega
      have hkk : k = gl - l0 := by omega
      have HK := Lib.hid (show n + 2 ≤ 44 ∧ j ≤ n ∧ gl = n + 2 ∧ k = goalL l0 j - l0 ∧ goalL l0 j - 2 = n ∧ goalL l0 j - 1 = n + 1 from by have := HGL.out; omega)
      have t1 : decide ((lk : Int) < (gl : Int)) = false := decide_eq_false (by omega)
      have t2 : decide (lk < gl) = false := decide_eq_false hlt
      have hr : wr.heap[rb]? = some (.cells #[.int .i64 B, .int .i64 Lv] 23 (0, 0)) := (HQ.out.2.keep.block rb HRF.out.2 HRF.out.1).trans HR1.out
      have l1 : wr.cell? ⟨rb, 0, none⟩ = some (.int .i64 B) := Joins.cell_of_block hr 0
      have l2 : wr.cell? ⟨rb, 1, none⟩ = some (.int .i64 Lv) := Joins.cell_of_block hr 1
      have HR := Lib.hid hr
      obtain ⟨X2, hX2⟩ : ∃ X, X = wr.alloc (.cells #[.pointer (some ⟨b, 0, none⟩), .int .i64 t, .int .i64 B, .int .i64 Lv, .int .i64 0] 79 (0, 0)) := ⟨_, rfl⟩
      have hbX2 : Below wr.heap.size wr X2 := by rw [hX2]; exact (Below.refl _ _).alloc (Nat.le_refl _) _
      have hLA : LAt wr.heap.size b t B Lv 0 X2 := by rw [hX2]; exact blk_last wr _ rfl
      have hnl : ¬ F1 wr.heap.size := fun e => by have := HQ.out.2.ar.lt _ e; omega
      have hdk : Den S1.L t (n + 2) (upT (goalL l0 j - l0) l0 T0) idk := by
        have := HQ.out.2.den
        rwa [← hlk, hlk2, HK.out.2.2.2.1] at this
      have hcall := HRES n HK.out.1 U wr.heap.size b t B Lv 0 S1 F1 idk (upT (goalL l0 j - l0) l0 T0) j X2 (HQ.out.2.ar.below hbX2) HQ.out.2.res.wf (HQ.out.2.res.notes HW.out.2) hLA hnl ht hBL HK.out.2.1 (fun _ => hdk) (hdk.i64 HQ.out.2.ar.ok) (fun th hth => HU.out th (.inr (.inl (by rw [HK.out.2.2.2.2.1]; exact hth))))
      rw [← hlk2] at hcall
      obtain ⟨lb, hlb⟩ : ∃ l, l = wr.heap.size := ⟨_, rfl⟩
      have HLB := Lib.hid hlb
      rw [← hlb] at hcall hLA hnl
      have HCALL := Lib.hid hcall
      have HX2 := Lib.hid hX2
      have HBX2 := Lib.hid hbX2
      have HNL := Lib.hid hnl
      have hTR : leapT B Lv n j (upT (goalL l0 j - l0) l0 T0) = leapR B Lv l0 j T0 := by unfold leapR; rw [HK.out.2.2.2.2.1]
      have HTR := Lib.hid hTR
      clear hq hlk hlt hn hkk hr hcall hX2 hbX2 hnl hdk hlb hLA hTR hlk2
      go_upto_region 16 with fail
      clear t1 t2
      go_upto_region 17 with fail
      rw [← HLB.out, ← HX2.out]
      go_wp2_with fail
      with_reducible refine HCALL.out.mono ?_
      rintro e w5 ⟨S2, b2, v, F2, rfl, ⟨r, rfl, hr64, hres, hdn⟩, hst⟩
      have c4 := hst.2.1.c4
      have hkp : Keeps F V w5 := (HQ.out.2.keep.below HBX2.out).trans hst.2.2.2 fun i hi e => by
        have hVw := HQ.out.2.keep.size
        rcases e with e | e
        · rcases HQ.out.2.far i e with e1 | e1
          · exact e1
          · omega
        · have := HLB.out; omega
      have hfar : ∀ i, F2 i → F i ∨ V.heap.size ≤ i := fun i hi => by
        rcases hst.2.2.1 i hi with e | e
        · exact HQ.out.2.far i e
        · exact .inr (Nat.le_trans HQ.out.2.keep.size (Nat.le_trans HBX2.out.size e))
      have hlr := HQ.out.2.res.trans hres
      by_cases hb2 : b2 = 0
      · subst hb2
        have hd5 := hdn rfl
        rw [HTR.out] at hd5
        have hp := peel_any (U := fun th => U th ∧ isSq th) b t S2 F2 (n + 1) (leapR B Lv l0 j T0) r w5 hst.1 hlr.wf ht hd5 (by have := HK.out; omega) (by have := HK.out; omega) (fun X hX => ⟨HU.out _ (.inr (.inr ⟨X, by rw [HK.out.2.2.2.2.2]; exact hX, rfl⟩)), trivial⟩)
        rw [← HK.out.2.2.2.2.2] at hp
        have HP := Lib.hid hp
        have HST := Lib.hid (show Keeps F V w5 ∧ (∀ i, F2 i → F i ∨ V.heap.size ≤ i) ∧ LRes U t S S2 0 0 ∧ ArOk S2 from ⟨hkp, hfar, hlr, hst.1.ok⟩)
        clear hp hd5 hst hkp hfar hlr hdn hres hr64
        go_wp2_with fail
        with_reducible refine HP.out.mono ?_
        rintro e w6 ⟨r6, e6, S6, F6, rfl, g1, g2, g3, g4, g5, g6, g7⟩
        have HE : Aside (LGets U w F b t S (peelL (goalL l0 j - 1) (leapR B Lv l0 j T0)) (peelT (goalL l0 j - 1) (leapR B Lv l0 j T0)) (.returned (.tuple #[.int .i64 r6, .int .i64 e6])) w6) := LGets.late ⟨r6, e6, S6, F6, rfl, g1, HST.out.2.2.1.trans (g2.lres HST.out.2.2.2 HST.out.2.2.1.wf), g3, g4, g5, fun i hi => by
          rcases g6 i hi with e | e
          · exact HST.out.2.1 i e
          · exact .inr (Nat.le_trans HST.out.1.size e), HST.out.1.step g7 HST.out.2.1⟩ HB1.out
        clear g1 g2 g3 g4 g5 g6 g7
        go_wp2_with fail
        go_ret2
        exact HE.out
      · have v1 : (b2 == 0) = false := by simpa using hb2
        have v2 : (b2 != 0) = true := by simpa using hb2
        have HE := Lib.hid (show ∀ p, LGets U w F b t S (peelL (goalL l0 j - 1) (leapR B Lv l0 j T0)) (peelT (goalL l0 j - 1) (leapR B Lv l0 j T0)) (.returned (.tuple #[.int .i64 0, .int .i64 b2])) (w5.drewN p) from fun p => LGets.late ⟨0, b2, S2, F2, rfl, by unfold I64; omega, hlr, fun e => absurd e hb2, fun _ => rfl, hst.1.keep ((Keeps.refl (fun _ => False) w5).drewN p) (fun _ _ h => h), hfar, hkp.drewN p⟩ HB1.out)
        clear hst hkp hfar hlr hdn hres hr64 hb2
        go_upto_region 19 with fail
        go_quiet (fail)
        go_wp2_with fail
        go_ret2
        exact HE.out _
end Go.Proofs.Ytabhpbkkjijfjaa
