/-
  How many things the steps of a few cells ask for: plain; The steps' roots show the plane's steps; the steps of a few cells ask for little: plain.
-/
import Derived.Test.YtabhpbkkjijfjaaZLeapSteps39
import Derived.Test.YtabhpbkkjijfjaaZLeapStepsLSteps
namespace Go.Proofs.Ytabhpbkkjijfjaa
set_option maxRecDepth 100000

theorem flatL_len {α β : Type} (f : α → List β) (k : Nat) : ∀ (l : List α), (∀ x ∈ l, (f x).length = k) → (l.flatMap f).length = l.length * k
  | [], _ => by simp
  | x :: l, h => by
    rw [List.flatMap_cons, List.length_append, h x List.mem_cons_self, flatL_len f k l fun y hy => h y (List.mem_cons_of_mem _ hy), List.length_cons, Nat.add_mul]; omega
/-- All trees of a level. -/
def allT : Nat → List Tree
  | 0 => [.leaf false, .leaf true]
  | n + 1 => (allT n).flatMap fun a => (allT n).flatMap fun b => (allT n).flatMap fun c => (allT n).map fun d => .node a b c d
theorem allT_mem : ∀ {n : Nat} {T : Tree}, Full n T → T ∈ allT n
  | 0, .leaf b, _ => by cases b <;> simp [allT]
  | 0, .node _ _ _ _, h => h.elim
  | _ + 1, .leaf _, h => h.elim
  | n + 1, .node a b c d, ⟨ha, hb, hc, hd⟩ => by
    rw [allT, List.mem_flatMap]
    refine ⟨a, allT_mem ha, List.mem_flatMap.2 ⟨b, allT_mem hb, List.mem_flatMap.2 ⟨c, allT_mem hc, List.mem_map.2 ⟨d, allT_mem hd, rfl⟩⟩⟩⟩
theorem allT_len (n : Nat) : (allT (n + 1)).length = (allT n).length * ((allT n).length * ((allT n).length * (allT n).length)) := by
  rw [allT]
  refine flatL_len _ _ _ fun a _ => flatL_len _ _ _ fun b _ => flatL_len _ _ _ fun c _ => ?_
  rw [List.length_map]
def smallL (code : Int) : List Th := (allT 1).map .sq ++ ((allT 2).map .sq ++ (allT 2).map fun T => .note T code 0)
theorem smallL_len (code : Int) : (smallL code).length = 131088 := by
  have h0 : (allT 0).length = 2 := rfl
  have h1 : (allT 1).length = 16 := by rw [allT_len, h0]
  have h2 : (allT 2).length = 65536 := by rw [allT_len, h1]
  unfold smallL
  rw [List.length_append, List.length_append, List.length_map, List.length_map, List.length_map, h1, h2]
theorem smallL_mem {code : Int} {th : Th} (h : SmallTh code th) : th ∈ smallL code := by
  unfold smallL
  rw [List.mem_append, List.mem_append]
  rcases h with ⟨T, hT, rfl⟩ | ⟨T, hT, rfl⟩ | ⟨T, hT, rfl⟩
  · exact .inl (List.mem_map.2 ⟨T, allT_mem hT, rfl⟩)
  · exact .inr (.inl (List.mem_map.2 ⟨T, allT_mem hT, rfl⟩))
  · exact .inr (.inr (List.mem_map.2 ⟨T, allT_mem hT, rfl⟩))
def emptL (code : Int) (top : Nat) : List Th := (List.range (top + 1)).flatMap fun m => .sq (emptyT m) :: (List.range 6).map fun j : Nat => .note (emptyT m) code (j : Int)
theorem emptL_len (code : Int) (top : Nat) : (emptL code top).length = (top + 1) * 7 := by
  unfold emptL
  rw [flatL_len _ 7 _ fun m _ => by simp, List.length_range]
theorem emptL_sq {code : Int} {top m : Nat} (h : m ≤ top) : Th.sq (emptyT m) ∈ emptL code top :=
  List.mem_flatMap.2 ⟨m, List.mem_range.2 (by omega), List.mem_cons_self⟩
theorem emptL_note {code : Int} {top m j : Nat} (h : m ≤ top) (hj : j < 6) : Th.note (emptyT m) code (j : Int) ∈ emptL code top :=
  List.mem_flatMap.2 ⟨m, List.mem_range.2 (by omega), List.mem_cons_of_mem _ (List.mem_map.2 ⟨j, List.mem_range.2 hj, rfl⟩)⟩
def fullOne (b l : Int) (f : PlaneF) (R s m k : Nat) : List Tree := sqL (m + 3) (iterP b l (s + k * 2 ^ (m + 1)) f) (R + (s + k * 2 ^ (m + 1))) (2 ^ (m + 2)) ((k : Int) * 2 ^ (m + 1))
def fullL (b l : Int) (f : PlaneF) (R j s : Nat) : List Th :=
  (List.range (j - 1)).flatMap fun m => (List.range (2 ^ (j - (m + 1)) + 1)).flatMap fun k => (fullOne b l f R s m k).map .sq ++ (fullOne b l f R s m k).map fun T => .note T (codeR b l) ((m + 1 : Nat) : Int)
def fullN (R j s : Nat) : Nat := ((List.range (j - 1)).map fun m => ((List.range (2 ^ (j - (m + 1)) + 1)).map fun k => 2 * (cntP (R + (s + k * 2 ^ (m + 1))) (m + 3) (2 ^ (m + 2)) * cntP (R + (s + k * 2 ^ (m + 1))) (m + 3) (2 ^ (m + 2)))).sum).sum
theorem fullL_len (b l : Int) (f : PlaneF) (R j s : Nat) : (fullL b l f R j s).length = fullN R j s := by
  unfold fullL fullN fullOne
  simp only [List.length_flatMap, List.length_append, List.length_map, sqL_len]
  congr 1
  refine List.map_congr_left fun m _ => ?_
  congr 1
  refine List.map_congr_left fun k _ => ?_
  omega
theorem cast_pow (n : Nat) : ((2 ^ n : Nat) : Int) = 2 ^ n := Int.natCast_pow 2 n
theorem pow_pos' (n : Nat) : 0 < 2 ^ n := Nat.two_pow_pos n
theorem fullL_mem {b l : Int} {f : PlaneF} {R j s top : Nat} {th : Th} (h : Near R f) (hb : livesF b l false 0 = false) (hj : j ≤ 5) (htop : j + 1 ≤ top) (hf : FullAt b l f j s 0 0 th) : th ∈ fullL b l f R j s ∨ th ∈ emptL (codeR b l) top := by
  obtain ⟨m, k, u, v, hm, hk, ht⟩ := hf
  have hone := sqL_mem (m := m + 3) (R := R + (s + k * 2 ^ (m + 1))) (f := iterP b l (s + k * 2 ^ (m + 1)) f) (sp := 2 ^ (m + 2)) (c := (k : Int) * 2 ^ (m + 1)) (u := u) (v := v) (X := 0 + k * 2 ^ (m + 1) + u * 2 ^ (m + 2)) (Y := 0 + k * 2 ^ (m + 1) + v * 2 ^ (m + 2)) (h.iter hb _) (pow_pos' _) (by rw [cast_pow, Int.zero_add]) (by rw [cast_pow, Int.zero_add])
  have hin : ∀ x, x ∈ (fullOne b l f R s m k).map Th.sq ++ (fullOne b l f R s m k).map (fun T => .note T (codeR b l) ((m + 1 : Nat) : Int)) → x ∈ fullL b l f R j s := fun x hx =>
    List.mem_flatMap.2 ⟨m, List.mem_range.2 (by omega), List.mem_flatMap.2 ⟨k, List.mem_range.2 (by omega), hx⟩⟩
  rcases hone with e | e
  · right
    rw [e] at ht
    rcases ht with rfl | rfl
    · exact emptL_sq (by omega)
    · exact emptL_note (by omega) (by omega)
  · left
    rcases ht with rfl | rfl
    · exact hin _ (List.mem_append_left _ (List.mem_map.2 ⟨_, e, rfl⟩))
    · exact hin _ (List.mem_append_right _ (List.mem_map.2 ⟨_, e, rfl⟩))
/-- The coarse lattice of a time. -/
def partOne (b l : Int) (f : PlaneF) (R s m : Nat) : List Tree := sqL (m + 3) (iterP b l s f) (R + s) (2 ^ (m + 1)) 0
def partC (R s m : Nat) : Nat := cntP (R + s) (m + 3) (2 ^ (m + 1)) * cntP (R + s) (m + 3) (2 ^ (m + 1))
theorem partOne_len (b l : Int) (f : PlaneF) (R s m : Nat) : (partOne b l f R s m).length = partC R s m := sqL_len _ _ _ _ _
theorem partOne_mem {b l : Int} {f : PlaneF} {R s m : Nat} {u v : Int} (h : Near R f) (hb : livesF b l false 0 = false) : treeAt (m + 3) (iterP b l s f) (u * 2 ^ (m + 1)) (v * 2 ^ (m + 1)) = emptyT (m + 3) ∨ treeAt (m + 3) (iterP b l s f) (u * 2 ^ (m + 1)) (v * 2 ^ (m + 1)) ∈ partOne b l f R s m :=
  sqL_mem (h.iter hb s) (pow_pos' _) (by rw [cast_pow, Int.zero_add]) (by rw [cast_pow, Int.zero_add])
def partL (b l : Int) (f : PlaneF) (R j s top : Nat) : List Th :=
  (List.range (top - 2)).flatMap fun m => (partOne b l f R s m).map .sq ++ ((partOne b l f R (s + 2 ^ j) m).map .sq ++ (partOne b l f R s m).map fun T => .note T (codeR b l) (j : Int))
def partN (R j s top : Nat) : Nat := ((List.range (top - 2)).map fun m => 2 * partC R s m + partC R (s + 2 ^ j) m).sum
theorem partL_len (b l : Int) (f : PlaneF) (R j s top : Nat) : (partL b l f R j s top).length = partN R j s top := by
  unfold partL partN
  simp only [List.length_flatMap, List.length_append, List.length_map, partOne_len]
  congr 1
  refine List.map_congr_left fun m _ => ?_
  omega
theorem partL_mem {b l : Int} {f : PlaneF} {R j s top : Nat} {th : Th} (h : Near R f) (hb : livesF b l false 0 = false) (hj : j ≤ 5) (hf : PartAt b l f j s top th) : th ∈ partL b l f R j s top ∨ th ∈ emptL (codeR b l) top := by
  rcases hf with ⟨m, g, u, v, hm, hg, rfl⟩ | ⟨m, u, v, hm, rfl⟩
  · rcases partOne_mem (R := R) (s := s + g * 2 ^ j) (m := m) (u := u) (v := v) h hb with e | e
    · right; rw [e]; exact emptL_sq hm
    · left
      refine List.mem_flatMap.2 ⟨m, List.mem_range.2 (by omega), ?_⟩
      rw [List.mem_append, List.mem_append]
      rcases (show g = 0 ∨ g = 1 by omega) with rfl | rfl
      · rw [Nat.zero_mul, Nat.add_zero] at e ⊢
        exact .inl (List.mem_map.2 ⟨_, e, rfl⟩)
      · rw [Nat.one_mul] at e ⊢
        exact .inr (.inl (List.mem_map.2 ⟨_, e, rfl⟩))
  · rcases partOne_mem (R := R) (s := s) (m := m) (u := u) (v := v) h hb with e | e
    · right; rw [e]; exact emptL_note hm (by omega)
    · left
      refine List.mem_flatMap.2 ⟨m, List.mem_range.2 (by omega), ?_⟩
      rw [List.mem_append, List.mem_append]
      exact .inr (.inr (List.mem_map.2 ⟨_, e, rfl⟩))
/-- A square of the coarse lattice, when it all begins. -/
def StartAt (f : PlaneF) (top : Nat) (th : Th) : Prop := ∃ (m : Nat) (u v : Int), m + 3 ≤ top ∧ th = .sq (treeAt (m + 3) f (u * 2 ^ (m + 1)) (v * 2 ^ (m + 1)))
/-- What so many steps ask for. -/
def StepsU (b l : Int) (f : PlaneF) (n : Nat) (th : Th) : Prop :=
  SmallTh (codeR b l) th ∨ StartAt f 9 th ∨ ∃ j, j < 6 ∧ n.testBit j = true ∧ (PartAt b l f j (n % 2 ^ j) 9 th ∨ FullAt b l f j (n % 2 ^ j) 0 0 th)
def stepsN (n : Nat) : Nat := 131088 + (70 + (((List.range 7).map fun m => partC 19 0 m).sum + ((List.range 6).map fun j => if n.testBit j = true then fullN 19 j (n % 2 ^ j) + partN 19 j (n % 2 ^ j) 9 else 0).sum))
theorem steps_cov {b l : Int} {f : PlaneF} {n : Nat} (h : Near 19 f) (hb : livesF b l false 0 = false) : Cov (StepsU b l f n) (stepsN n) := by
  refine ⟨smallL (codeR b l) ++ (emptL (codeR b l) 9 ++ ((List.range 7).flatMap (fun m => (partOne b l f 19 0 m).map Th.sq) ++ (List.range 6).flatMap fun j => if n.testBit j = true then fullL b l f 19 j (n % 2 ^ j) ++ partL b l f 19 j (n % 2 ^ j) 9 else [])), ?_, fun th hth => ?_⟩
  · refine Nat.le_of_eq ?_
    unfold stepsN
    rw [List.length_append, List.length_append, List.length_append, smallL_len, emptL_len, List.length_flatMap, List.length_flatMap]
    simp only [List.length_map, partOne_len, apply_ite List.length, List.length_append, fullL_len, partL_len, List.length_nil]
  · rw [List.mem_append, List.mem_append, List.mem_append]
    rcases hth with h1 | ⟨m, u, v, hm, rfl⟩ | ⟨j, hj, hbit, h1⟩
    · exact .inl (smallL_mem h1)
    · rcases partOne_mem (b := b) (l := l) (R := 19) (s := 0) (m := m) (u := u) (v := v) h hb with e | e
      · exact .inr (.inl (by
          have e : treeAt (m + 3) f (u * 2 ^ (m + 1)) (v * 2 ^ (m + 1)) = emptyT (m + 3) := e
          rw [e]; exact emptL_sq hm))
      · exact .inr (.inr (.inl (List.mem_flatMap.2 ⟨m, List.mem_range.2 (by omega), List.mem_map.2 ⟨_, e, rfl⟩⟩)))
    · have hin : ∀ x, x ∈ fullL b l f 19 j (n % 2 ^ j) ++ partL b l f 19 j (n % 2 ^ j) 9 → x ∈ (List.range 6).flatMap fun j => if n.testBit j = true then fullL b l f 19 j (n % 2 ^ j) ++ partL b l f 19 j (n % 2 ^ j) 9 else [] := fun x hx =>
        List.mem_flatMap.2 ⟨j, List.mem_range.2 hj, by rw [if_pos hbit]; exact hx⟩
      rcases h1 with h1 | h1
      · rcases partL_mem h hb (by omega) h1 with e | e
        · exact .inr (.inr (.inr (hin _ (List.mem_append_right _ e))))
        · exact .inr (.inl e)
      · rcases fullL_mem (top := 9) h hb (by omega) (by omega) h1 with e | e
        · exact .inr (.inr (.inr (hin _ (List.mem_append_left _ e))))
        · exact .inr (.inl e)
set_option maxRecDepth 100000 in
theorem steps_few : ∀ n, n < 40 → stepsN n ≤ 199000 := by decide +kernel
theorem steps_room {b l : Int} {f : PlaneF} {n : Nat} (hn : n < 40) (h : Near 19 f) (hb : livesF b l false 0 = false) : Cov (StepsU b l f n) 199000 :=
  (steps_cov h hb).sub (fun _ h => h) (steps_few n hn)
end Go.Proofs.Ytabhpbkkjijfjaa
namespace Go.Proofs.Ytabhpbkkjijfjaa
set_option maxRecDepth 100000

/-- All that lives lies in the box of a level. -/
def InBox (p : Nat) (g : PlaneF) : Prop := ∀ x y, g x y = true → -(2 ^ (p - 1)) ≤ x ∧ x < 2 ^ (p - 1) ∧ -(2 ^ (p - 1)) ≤ y ∧ y < 2 ^ (p - 1)
theorem Shows.box {n : Nat} {T : Tree} {g : PlaneF} (h1 : 1 ≤ n) (h : Shows n T g) : InBox n g := fun x y hg => by
  have := h.in_ hg
  have e := pow_pred h1
  omega
/-- A leap with all that belongs to it. -/
theorem Shows.jump {B Lv : Int} {l j : Nat} {T : Tree} {g : PlaneF} (h : Shows l T g) (h2 : 2 ≤ l) (hb : livesF B Lv false 0 = false) : Shows (goalL l j) (upT (goalL l j - l) l T) g ∧ Shows (goalL l j - 1) (leapR B Lv l j T) (iterP B Lv (2 ^ j) g) := by
  have hg : l + 2 ≤ goalL l j ∧ j + 3 ≤ goalL l j := by unfold goalL; omega
  have hu := h.up (by omega) (goalL l j - l)
  rw [show l + (goalL l j - l) = goalL l j by omega] at hu
  refine ⟨hu, ?_⟩
  unfold leapR
  obtain ⟨n, hn⟩ : ∃ n, goalL l j = n + 2 := ⟨goalL l j - 2, by omega⟩
  rw [hn] at hu hg ⊢
  rw [show n + 2 - 1 = n + 1 by omega, show n + 2 - 2 = n by omega]
  exact hu.leap hb (by omega) (show l ≤ n by omega) (by omega) (h.box (by omega))
theorem bit_mod {n j : Nat} (h : n.testBit j = true) : n % 2 ^ (j + 1) = 2 ^ j + n % 2 ^ j := by
  rw [Nat.testBit_eq_decide_div_mod_eq, decide_eq_true_eq] at h
  rw [Nat.pow_succ, Nat.mod_mul, h]; omega
theorem skip_mod {n j : Nat} (h : n.testBit j = false) : n % 2 ^ (j + 1) = n % 2 ^ j := by
  rw [Nat.testBit_eq_decide_div_mod_eq, decide_eq_false_iff_not] at h
  rw [Nat.pow_succ, Nat.mod_mul, show n / 2 ^ j % 2 = 0 by omega]; omega
/-- The root behind the bits below j shows the plane so many steps later; it is as small as can be. -/
theorem stepT_shows {B Lv : Int} {n l0 : Nat} {T0 : Tree} {g : PlaneF} (h : Shows l0 T0 g) (h2 : 2 ≤ l0) (hb : livesF B Lv false 0 = false) : ∀ j, Shows (stepT B Lv n l0 T0 j).1 (stepT B Lv n l0 T0 j).2 (iterP B Lv (n % 2 ^ j) g) ∧ 2 ≤ (stepT B Lv n l0 T0 j).1
  | 0 => by
    rw [Nat.pow_zero, Nat.mod_one]
    obtain ⟨m, rfl⟩ : ∃ m, l0 = m + 2 := ⟨l0 - 2, by omega⟩
    exact ⟨h.peel h2, (peel_cells m T0 h.full).2.1⟩
  | j + 1 => by
    obtain ⟨ih, i2⟩ := stepT_shows (n := n) h h2 hb j
    cases hbit : n.testBit j with
    | false => rw [stepT_skip hbit, skip_mod hbit]; exact ⟨ih, i2⟩
    | true =>
      rw [stepT_bit hbit, bit_mod hbit, iterP_add]
      have hj := (ih.jump (j := j) i2 hb).2
      have hg : (stepT B Lv n l0 T0 j).1 + 2 ≤ goalL (stepT B Lv n l0 T0 j).1 j := by unfold goalL; omega
      obtain ⟨m, hm⟩ : ∃ m, goalL (stepT B Lv n l0 T0 j).1 j - 1 = m + 2 := ⟨goalL (stepT B Lv n l0 T0 j).1 j - 1 - 2, by omega⟩
      rw [hm] at hj ⊢
      exact ⟨hj.peel (by omega), (peel_cells m _ hj.full).2.1⟩
/-- Its level is no more than one that reaches all. -/
theorem stepT_low {B Lv : Int} {n l0 p : Nat} {T0 : Tree} {g : PlaneF} (h : Shows l0 T0 g) (h2 : 2 ≤ l0) (hb : livesF B Lv false 0 = false) (hp : 2 ≤ p) (hin : ∀ k, k ≤ n → InBox p (iterP B Lv k g)) : ∀ j, (stepT B Lv n l0 T0 j).1 ≤ p
  | 0 => by
    obtain ⟨m, rfl⟩ : ∃ m, l0 = m + 2 := ⟨l0 - 2, by omega⟩
    exact Shows.least hp (hin 0 (by omega)) h
  | j + 1 => by
    obtain ⟨ih, i2⟩ := stepT_shows (n := n) h h2 hb j
    cases hbit : n.testBit j with
    | false => rw [stepT_skip hbit]; exact stepT_low h h2 hb hp hin j
    | true =>
      have hj := (ih.jump (j := j) i2 hb).2
      rw [← iterP_add, ← bit_mod hbit] at hj
      have hg : (stepT B Lv n l0 T0 j).1 + 2 ≤ goalL (stepT B Lv n l0 T0 j).1 j := by unfold goalL; omega
      obtain ⟨m, hm⟩ : ∃ m, goalL (stepT B Lv n l0 T0 j).1 j - 1 = m + 2 := ⟨goalL (stepT B Lv n l0 T0 j).1 j - 1 - 2, by omega⟩
      rw [stepT_bit hbit, hm]
      rw [hm] at hj
      exact Shows.least hp (hin _ (Nat.mod_le _ _)) hj
theorem Near.box {R p : Nat} {g : PlaneF} (h : Near R g) (hR : R < 2 ^ (p - 1)) : InBox p g := fun x y hg => by
  have := h x y hg
  have e : ((2 ^ (p - 1) : Nat) : Int) = 2 ^ (p - 1) := cast_two _
  omega
/-! ### Places -/
theorem sub_at {S : Tree} {f : PlaneF} : ∀ {n : Nat} {X Y : Int}, Sub S (treeAt n f X Y) → ∃ (m : Nat) (a c : Int), 1 ≤ m ∧ m ≤ n ∧ S = treeAt m f (X + a * 2 ^ m) (Y + c * 2 ^ m)
  | 0, _, _, h => h.elim
  | n + 1, X, Y, h => by
    have up : ∀ (i k : Int), i * 2 ^ n = i * 2 ^ n → Sub S (treeAt n f (X + i * 2 ^ n) (Y + k * 2 ^ n)) → ∃ (m : Nat) (a c : Int), 1 ≤ m ∧ m ≤ n + 1 ∧ S = treeAt m f (X + a * 2 ^ m) (Y + c * 2 ^ m) := fun i k _ h => by
      obtain ⟨m, a, c, h1, h2, h3⟩ := sub_at h
      have e : (2 : Int) ^ n = 2 ^ (n - m) * 2 ^ m := pow_split h2
      have ex : ∀ (Z i a : Int), Z + i * 2 ^ n + a * 2 ^ m = Z + (i * 2 ^ (n - m) + a) * 2 ^ m := fun Z i a => by rw [e, Int.add_mul, Int.mul_assoc, Int.add_assoc]
      rw [ex, ex] at h3
      exact ⟨m, _, _, h1, by omega, h3⟩
    rcases h with h | h | h | h | h
    · exact ⟨n + 1, 0, 0, by omega, by omega, by rw [Int.zero_mul, Int.add_zero, Int.add_zero]; exact h⟩
    · exact up 0 0 rfl (by rw [Int.zero_mul, Int.add_zero, Int.add_zero]; exact h)
    · exact up 1 0 rfl (by rw [Int.zero_mul, Int.one_mul, Int.add_zero]; exact h)
    · exact up 0 1 rfl (by rw [Int.zero_mul, Int.one_mul, Int.add_zero]; exact h)
    · exact up 1 1 rfl (by rw [Int.one_mul]; exact h)
/-- A part of a root lies on the coarse lattice. -/
theorem Shows.sub {S T : Tree} {n : Nat} {g : PlaneF} (h : Shows n T g) (h1 : 1 ≤ n) (hs : Sub S T) : (Full 1 S ∨ Full 2 S) ∨ ∃ (m : Nat) (u v : Int), m + 3 ≤ n ∧ S = treeAt (m + 3) g (u * 2 ^ (m + 1)) (v * 2 ^ (m + 1)) := by
  rw [h.at_] at hs
  obtain ⟨m, a, c, h1, h2, h3⟩ := sub_at hs
  by_cases hm : m ≤ 2
  · left
    rcases (show m = 1 ∨ m = 2 by omega) with rfl | rfl
    · rw [h3]; exact .inl full_at
    · rw [h3]; exact .inr full_at
  · right
    obtain ⟨k, rfl⟩ : ∃ k, m = k + 3 := ⟨m - 3, by omega⟩
    have e : (2 : Int) ^ (n - 1) = 2 ^ (n - 1 - (k + 1)) * 2 ^ (k + 1) := pow_split (by omega)
    have e3 : (2 : Int) ^ (k + 3) = 4 * 2 ^ (k + 1) := by rw [show k + 3 = (k + 1) + 1 + 1 from rfl, Int.pow_succ, Int.pow_succ]; omega
    have ex : ∀ a : Int, -(2 ^ (n - 1)) + a * 2 ^ (k + 3) = (-(2 ^ (n - 1 - (k + 1))) + a * 4) * 2 ^ (k + 1) := fun a => by
      rw [e, e3, Int.add_mul, Int.neg_mul, Int.mul_assoc]
    rw [ex, ex] at h3
    exact ⟨k, _, _, h2, h3⟩
theorem Shows.root {T : Tree} {n : Nat} {g : PlaneF} (h : Shows n T g) (h1 : 1 ≤ n) : (Full 1 T ∨ Full 2 T) ∨ ∃ (m : Nat) (u v : Int), m + 3 ≤ n ∧ T = treeAt (m + 3) g (u * 2 ^ (m + 1)) (v * 2 ^ (m + 1)) := by
  refine h.sub h1 ?_
  obtain ⟨m, rfl⟩ : ∃ m, n = m + 1 := ⟨n - 1, by omega⟩
  match T, h.full with
  | .node a b c d, _ => exact Sub.refl a b c d
theorem small_of {code : Int} {S : Tree} (h : Full 1 S ∨ Full 2 S) : SmallTh code (.sq S) := by
  rcases h with h | h
  · exact .inl ⟨S, h, rfl⟩
  · exact .inr (.inl ⟨S, h, rfl⟩)
/-- A part of the root when it begins. -/
theorem start_sub {B Lv : Int} {n l0 : Nat} {T0 S : Tree} {g : PlaneF} (h : Shows l0 T0 g) (h1 : 1 ≤ l0) (h9 : l0 ≤ 9) (hs : Sub S T0) : StepsU B Lv g n (.sq S) := by
  rcases h.sub h1 hs with e | ⟨m, u, v, hm, e⟩
  · exact .inl (small_of e)
  · exact .inr (.inl ⟨m, u, v, by omega, by rw [e]⟩)
/-- All that one leap asks for is among this. -/
theorem leap_cover {B Lv : Int} {n l j : Nat} {T : Tree} {g : PlaneF} {th : Th} (hs : Shows l T (iterP B Lv (n % 2 ^ j) g)) (s2 : 2 ≤ l) (l7 : l ≤ 7) (hj6 : j < 6) (hb : livesF B Lv false 0 = false) (hbit : n.testBit j = true) (hd : LeapD B Lv l j T th) : StepsU B Lv g n th := by
  obtain ⟨hu, hr⟩ := hs.jump (j := j) s2 hb
  have hg : goalL l j ≤ 9 ∧ l + 2 ≤ goalL l j ∧ j + 3 ≤ goalL l j := by unfold goalL; omega
  have part : ∀ (gg : Nat) (S : Tree) (k : Nat) (T : Tree), gg ≤ 1 → 1 ≤ k → k ≤ 9 → Shows k T (iterP B Lv (n % 2 ^ j + gg * 2 ^ j) g) → Sub S T → StepsU B Lv g n (.sq S) := fun gg S k T hgg h1 h9 hsh hsub => by
    rcases hsh.sub h1 hsub with e | ⟨m, u, v, hm, e⟩
    · exact .inl (small_of e)
    · exact .inr (.inr ⟨j, hj6, hbit, .inl (.inl ⟨m, gg, u, v, by omega, hgg, by rw [e]⟩)⟩)
  rcases hd with ⟨k, T', k1, k2, hsub, rfl⟩ | hd | ⟨X, hX, rfl⟩
  · have hk := hs.up (by omega) k
    refine part 0 T' (l + k) _ (by omega) (by omega) (by omega) ?_ hsub
    rw [Nat.zero_mul, Nat.add_zero]; exact hk
  · obtain ⟨i, hi⟩ : ∃ i, goalL l j = i + 2 := ⟨goalL l j - 2, by omega⟩
    rw [hu.at_] at hd
    rw [hi, show i + 2 - 2 = i by omega, show i + 2 - 1 = i + 1 by omega] at hd
    have ep : -((2 : Int) ^ (i + 1)) = -2 * 2 ^ i := by rw [Int.pow_succ]; omega
    rcases dem_part (top := 9) (by omega) (by omega) ep ep hd with e | e | e
    · exact .inl e
    · exact .inr (.inr ⟨j, hj6, hbit, .inl e⟩)
    · exact .inr (.inr ⟨j, hj6, hbit, .inr e⟩)
  · obtain ⟨i, hi⟩ : ∃ i, goalL l j - 1 = i + 2 := ⟨goalL l j - 3, by omega⟩
    rw [hi] at hX hr
    obtain ⟨k, k2, k3, hk⟩ := peelD_shows hr hX
    rw [← iterP_add, Nat.add_comm (2 ^ j)] at hk
    refine part 1 X k X (by omega) (by omega) (by omega) (by rw [Nat.one_mul]; exact hk) ?_
    obtain ⟨m, rfl⟩ : ∃ m, k = m + 1 := ⟨k - 1, by omega⟩
    match X, hk.full with
    | .node a b c d, _ => exact Sub.refl a b c d
/-- All that so many steps ask for is among this. -/
theorem step_cover {B Lv : Int} {n l0 : Nat} {T0 : Tree} {g : PlaneF} {th : Th} (h : Shows l0 T0 g) (h2 : 2 ≤ l0) (h9 : l0 ≤ 9) (hb : livesF B Lv false 0 = false) (hn : n < 64) (hlow : ∀ j, n.testBit j = true → (stepT B Lv n l0 T0 j).1 ≤ 7) (hth : StepD B Lv n l0 T0 th) : StepsU B Lv g n th := by
  rcases hth with ⟨X, hX, rfl⟩ | ⟨j, hbit, hd⟩
  · obtain ⟨m, rfl⟩ : ∃ m, l0 = m + 2 := ⟨l0 - 2, by omega⟩
    obtain ⟨k, k2, k3, hk⟩ := peelD_shows h hX
    rcases hk.root (by omega) with e | ⟨i, u, v, hi, e⟩
    · exact .inl (small_of e)
    · exact .inr (.inl ⟨i, u, v, by omega, by rw [e]⟩)
  · have hj6 : j < 6 := by
      refine Classical.byContradiction fun hc => ?_
      have hp : 2 ^ 6 ≤ 2 ^ j := Nat.pow_le_pow_right (by omega) (by omega)
      rw [Nat.testBit_lt_two_pow (show n < 2 ^ j by omega)] at hbit
      cases hbit
    obtain ⟨hs, s2⟩ := stepT_shows (n := n) h h2 hb j
    exact leap_cover hs s2 (hlow j hbit) hj6 hb hbit hd
end Go.Proofs.Ytabhpbkkjijfjaa
