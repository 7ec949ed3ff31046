/-
  The document's Mint.
-/
import Derived.Test.YtjbkfkgdpbjliaaDoorMint
namespace Go.Proofs.YtjbkfkgdpbjliaaDoor
set_option maxRecDepth 100000
open Go.RowKit

theorem refMint_bad (s : Int) (ks : List KeyD) (name : ByteArray) (r d : Int) (a : Option Addr) (cap : Nat) (w : World) (h : r < 1 ∨ 3 < r ∨ s < 0 ∨ 2147483648 ≤ s) :
    Calls Tryd.prog 6 #[.agg #[.int .i64 s, .slice a ks.length cap], .string name, .int .i64 r, .int .i64 d] w (MintBad 3 w) := by
  have hc : (decide (r < 1) = true ∧ True) ∨ (decide (r < 1) = false ∧ decide (3 < r) = true) ∨ (decide (r < 1) = false ∧ decide (3 < r) = false ∧ decide (s < 0) = true) ∨ (decide (r < 1) = false ∧ decide (3 < r) = false ∧ decide (s < 0) = false ∧ decide (2147483647 < s) = true) := by
    by_cases h1 : r < 1
    · exact .inl ⟨decide_eq_true h1, trivial⟩
    · by_cases h2 : 3 < r
      · exact .inr (.inl ⟨decide_eq_false h1, decide_eq_true h2⟩)
      · by_cases h3 : s < 0
        · exact .inr (.inr (.inl ⟨decide_eq_false h1, decide_eq_false h2, decide_eq_true h3⟩))
        · exact .inr (.inr (.inr ⟨decide_eq_false h1, decide_eq_false h2, decide_eq_false h3, decide_eq_true (by omega)⟩))
  obtain ⟨n, hn⟩ : ∃ n, n = ks.length := ⟨_, rfl⟩
  rw [← hn]
  clear hn h
  rcases hc with ⟨h1, -⟩ | ⟨h1, h2⟩ | ⟨h1, h2, h3⟩ | ⟨h1, h2, h3, h4⟩
  all_goals
    go_enter Tryd.func6, Tryd.ntmps6
    go_wp2_with fail
    refine bodyPost_ret (v := .tuple #[.agg #[.int .i64 0, .slice none 0 0], .string ⟨#[]⟩, .int .i64 3]) (by simp [results, Tryd.results6, go_sem]) rfl ⟨rfl, ?_⟩
    exact ((Below.refl _ _).alloc (Nat.le_refl _) _).alloc (by simp) _
theorem refMint_full (s : Nat) (ks : List KeyD) (name : ByteArray) (r d : Int) (a : Option Addr) (cap : Nat) (w : World) (h1 : 1 ≤ r) (h2 : r ≤ 3) (hs : s < 2147483648) (hn : 32 ≤ ks.length) :
    Calls Tryd.prog 6 #[.agg #[.int .i64 s, .slice a ks.length cap], .string name, .int .i64 r, .int .i64 d] w (MintBad 5 w) := by
  have g1 : decide (r < 1) = false := decide_eq_false (by omega)
  have g2 : decide (3 < r) = false := decide_eq_false (by omega)
  have g3 : decide ((s : Int) < 0) = false := decide_eq_false (by omega)
  have g4 : decide (2147483647 < (s : Int)) = false := decide_eq_false (by omega)
  have g5 : decide (2147483647 < s) = false := decide_eq_false (by omega)
  obtain ⟨n, hne⟩ : ∃ n, n = ks.length := ⟨_, rfl⟩
  rw [← hne] at hn ⊢
  have g6 : decide (32 ≤ (n : Int)) = true := decide_eq_true (by omega)
  have g7 : decide (32 ≤ n) = true := decide_eq_true (by omega)
  clear hne
  go_enter Tryd.func6, Tryd.ntmps6
  go_wp2_with fail
  refine bodyPost_ret (v := .tuple #[.agg #[.int .i64 0, .slice none 0 0], .string ⟨#[]⟩, .int .i64 5]) (by simp [results, Tryd.results6, go_sem]) rfl ⟨rfl, ?_⟩
  exact ((Below.refl _ _).alloc (Nat.le_refl _) _).alloc (by simp) _

theorem src_key {W : World} {g : Nat} {kd : KeyD} (h : W.heap[g]? = some (.cells (encKey kd).toArray 36 (0, 0))) : Src W 3 (some ⟨g, 0, none⟩) 1 (encKey kd) := ⟨rfl, fun _ => ⟨_, rfl, fun j u hu => by
  rw [Addr.add_lit, Nat.zero_add, Joins.cell_of_block h]
  simpa using hu⟩⟩
/-- A row that is one's own from V on, and apart from block N. -/
structure RK (V W : World) (n : Nat) (va : Option Addr) (vc : Nat) (FL : List Value) : Prop where
  below : Below V.heap.size V W
  row : Row W 36 3 (.slice va n vc) n FL
  own : ∀ g, (Value.slice va n vc).ownBlock = some g → V.heap.size ≤ g
theorem RK.up {V W W' : World} {n : Nat} {va : Option Addr} {vc : Nat} {FL : List Value} (h : RK V W n va vc FL) (hb : Below W.heap.size W W') : RK V W' n va vc FL :=
  ⟨h.below.trans (hb.mono h.below.size), h.row.keep fun g hg => hb.block g (h.row.lt g hg), h.own⟩
theorem RK.drew {V W : World} {n : Nat} {va : Option Addr} {vc : Nat} {FL : List Value} (h : RK V W n va vc FL) : RK V W.drew n va vc FL := ⟨h.below.drew, h.row.keep fun _ _ => rfl, h.own⟩
theorem rk_first {V W w1 : World} {n : Nat} {va : Option Addr} {vc : Nat} {FL : List Value} (hB : Below V.heap.size V W) (hg : W.grownBy w1 (Value.slice none 0 0).ownBlock) (hr : Row w1 36 3 (.slice va n vc) n FL) (ha : (Value.slice va n vc).ownBlock = (Value.slice none 0 0).ownBlock ∨ (Value.slice va n vc).ownBlock = some W.heap.size) :
    RK V w1 n va vc FL ∧ Below W.heap.size W w1 ∧ ∀ g, (Value.slice va n vc).ownBlock = some g → W.heap.size ≤ g := by
  have h2 : ∀ g, (Value.slice va n vc).ownBlock = some g → W.heap.size ≤ g := fun g hg2 => by
    rcases ha with ha | ha
    · rw [ha] at hg2; cases hg2
    · rw [ha] at hg2; cases hg2; exact Nat.le_refl _
  have hz := hB.size
  exact ⟨⟨hB.grown hg hB.size (fun k hk => by cases hk), hr, fun g hg2 => by have := h2 g hg2; omega⟩, (Below.refl _ _).grown hg (Nat.le_refl _) (fun k hk => by cases hk), h2⟩
theorem rk_second {V W w2 : World} {n : Nat} {va vb : Option Addr} {vc vd : Nat} {FL FL2 : List Value} (h : RK V W n va vc FL) (hg : W.grownBy w2 (Value.slice va n vc).ownBlock) (hr : Row w2 36 3 (.slice vb (n + 1) vd) (n + 1) FL2) : Below V.heap.size V w2 ∧ Row w2 36 3 (.slice vb (n + 1) vd) (n + 1) FL2 :=
  ⟨h.below.grown hg h.below.size (fun k hk => h.own k hk), hr⟩
/-- The table's block behind the second append. -/
theorem rk_table {V W w2 : World} {n N : Nat} {va vb : Option Addr} {vc vd : Nat} {FL : List Value} (_h : RK V W n va vc FL) (hg : W.grownBy w2 (Value.slice va n vc).ownBlock) (ha : (Value.slice vb (n + 1) vd).ownBlock = (Value.slice va n vc).ownBlock ∨ (Value.slice vb (n + 1) vd).ownBlock = some W.heap.size)
    (hN : W.heap[N]? = some (.cells #[.int .i64 0, .slice none 0 0] 24 (0, 0))) (hne : (Value.slice va n vc).ownBlock ≠ some N) : w2.heap[N]? = some (.cells #[.int .i64 0, .slice none 0 0] 24 (0, 0)) ∧ (Value.slice vb (n + 1) vd).ownBlock ≠ some N ∧ (w2.cell? ⟨N, 0, none⟩ = some (.int .i64 0) ∧ w2.cell? ⟨N, 1, none⟩ = some (.slice none 0 0) ∧ ∀ j, w2.frozen? ⟨N, j, none⟩ = false) := by
  have hl := lt_of_block hN
  have h2 : w2.heap[N]? = some (.cells #[.int .i64 0, .slice none 0 0] 24 (0, 0)) := (hg.block N hl (fun e => hne e.symm)).trans hN
  refine ⟨h2, fun e => ?_, Joins.cell_of_block h2 0, Joins.cell_of_block h2 1, fun j => Joins.unfrozen_of_block h2 j⟩
  rcases ha with ha | ha
  · exact hne (ha.symm.trans e)
  · rw [ha] at e; cases e; omega
/-- The document's new table. -/
def MadeR (X : World) (N s n : Nat) (FL : List Value) (wx : World) : Prop := ∃ va vc, wx.heap[N]? = some (.cells #[.int .i64 ((s : Int) + 1), .slice va (n + 1) vc] 24 (0, 0)) ∧ Row wx 36 3 (.slice va (n + 1) vc) (n + 1) FL ∧ X.heap.size ≤ N ∧ Below X.heap.size X wx
theorem madeR_new {V w2 : World} {n s : Nat} {vb : Option Addr} {vd : Nat} {FL : List Value} (h : Below V.heap.size V w2 ∧ Row w2 36 3 (.slice vb (n + 1) vd) (n + 1) FL) : MadeR V w2.heap.size s n FL (w2.alloc (.cells #[.int .i64 ((s : Int) + 1), .slice vb (n + 1) vd] 24)) :=
  ⟨vb, vd, blk_last w2 _ rfl, h.2.keep fun g hg => Below.heap_alloc _ _ _ (h.2.lt g hg), h.1.size, h.1.alloc h.1.size _⟩
theorem madeR_store {V w2 : World} {n s N : Nat} {vb : Option Addr} {vd : Nat} {FL : List Value} (h : Below V.heap.size V w2 ∧ Row w2 36 3 (.slice vb (n + 1) vd) (n + 1) FL) (hN : w2.heap[N]? = some (.cells #[.int .i64 0, .slice none 0 0] 24 (0, 0))) (hne : (Value.slice vb (n + 1) vd).ownBlock ≠ some N) (hl : V.heap.size ≤ N) :
    MadeR V N s n FL ((w2.setCell ⟨N, 0, none⟩ (.int .i64 ((s : Int) + 1))).setCell ⟨N, 1, none⟩ (.slice vb (n + 1) vd)) := by
  refine ⟨vb, vd, ?_, h.2.keep fun g hg => ?_, hl, (h.1.setCell hl _).setCell hl _⟩
  · have := Joins.block_setCell (i := 1) (Joins.block_setCell (i := 0) hN (.int .i64 ((s : Int) + 1))) (.slice vb (n + 1) vd)
    simpa using this
  · have : g ≠ N := fun e => hne (by rw [hg, e])
    rw [Below.heap_setCell _ _ _ _ this, Below.heap_setCell _ _ _ _ this]
theorem refm_end {w V wc : World} {N s n : Nat} {va : Option Addr} {vc : Nat} {FL : List Value} (_hN : wc.heap[N]? = some (.cells #[.int .i64 ((s : Int) + 1), .slice va (n + 1) vc] 24 (0, 0))) (hx : wc.heap[w.heap.size + 1]? = some (.cells #[.int .i64 0, .slice none 0 0] 24 (0, 0)))
    (hB : Below w.heap.size w wc) (hr : Row wc 36 3 (.slice va (n + 1) vc) (n + 1) FL) (_h3 : V.heap.size ≤ N) (_hw1 : w.heap.size + 1 < V.heap.size) :
    ∀ W9, W9 = (wc.setCell ⟨w.heap.size + 1, 0, none⟩ (.int .i64 ((s : Int) + 1))).setCell ⟨w.heap.size + 1, 1, none⟩ (.slice va (n + 1) vc) →
      W9.cell? ⟨w.heap.size + 1, 0, none⟩ = some (.int .i64 ((s : Int) + 1)) ∧ W9.cell? ⟨w.heap.size + 1, 1, none⟩ = some (.slice va (n + 1) vc) ∧ Below w.heap.size w W9 ∧ (n < 32 → IsSl W9 3 40 (.slice va (n + 1) vc) (n + 1) FL) := fun W9 hW9 => by
  have hb9 : W9.heap[w.heap.size + 1]? = some (.cells #[.int .i64 ((s : Int) + 1), .slice va (n + 1) vc] 24 (0, 0)) := by
    rw [hW9]
    have := Joins.block_setCell (i := 1) (Joins.block_setCell (i := 0) hx (.int .i64 ((s : Int) + 1))) (.slice va (n + 1) vc)
    simpa using this
  refine ⟨Joins.cell_of_block hb9 0, Joins.cell_of_block hb9 1, ?_, fun hn => ?_⟩
  · rw [hW9]
    exact (hB.setCell (by simp only; omega) _).setCell (by simp only; omega) _
  · have hr9 : Row W9 36 3 (.slice va (n + 1) vc) (n + 1) FL := hr.keep fun g hg => by
      have hne : g ≠ w.heap.size + 1 := fun e => hr.ne_type hx (by decide) (by rw [hg, e])
      rw [hW9, Below.heap_setCell _ _ _ _ hne, Below.heap_setCell _ _ _ _ hne]
    exact hr9.sl (bytes := 40) (by omega)
set_option maxHeartbeats 8000000 in
theorem refMint_ok (s : Nat) (ks : List KeyD) (name : ByteArray) (r d : Int) (a : Option Addr) (cap : Nat) (w : World) (h1 : 1 ≤ r) (h2 : r ≤ 3) (hs : s < 2147483648) (hn : ks.length < 32) (hd : -9223372036854775808 ≤ d ∧ d ≤ 9223372036854775807)
    (hsl : Sl w 3 40 a ks.length cap (ks.flatMap encKey)) :
    Calls Tryd.prog 6 #[.agg #[.int .i64 s, .slice a ks.length cap], .string name, .int .i64 r, .int .i64 d] w (MintOk s ks name r d w) := by
  obtain ⟨i0, hi, hz0, hz1, hz2⟩ := info_parts infoKey
  have g1 : decide (r < 1) = false := decide_eq_false (by omega)
  have g2 : decide (3 < r) = false := decide_eq_false (by omega)
  have g3 : decide ((s : Int) < 0) = false := decide_eq_false (by omega)
  have g4 : decide (2147483647 < (s : Int)) = false := decide_eq_false (by omega)
  have g5 : decide (2147483647 < s) = false := decide_eq_false (by omega)
  obtain ⟨n, hne⟩ : ∃ n, n = ks.length := ⟨_, rfl⟩
  have HNE := Lib.hid hne
  rw [← hne] at hn hsl ⊢
  have g6 : decide (32 ≤ (n : Int)) = false := decide_eq_false (by omega)
  have g7 : decide (32 ≤ n) = false := decide_eq_false (by omega)
  obtain ⟨X, hX⟩ : ∃ X, X = (w.alloc (.cells #[.int .i64 s, .slice a n cap] 24)).alloc (.cells #[.int .i64 0, .slice none 0 0] 24) := ⟨_, rfl⟩
  have hBX : Below w.heap.size w X := by rw [hX]; exact ((Below.refl _ _).alloc (Nat.le_refl _) _).alloc (by simp) _
  have hX0 : X.heap[w.heap.size]? = some (.cells #[.int .i64 s, .slice a n cap] 24 (0, 0)) := by rw [hX]; exact blk_alloc (blk_last w _ rfl) _
  have hX1 : X.heap[w.heap.size + 1]? = some (.cells #[.int .i64 0, .slice none 0 0] 24 (0, 0)) := by rw [hX]; exact blk_last _ _ (by simp)
  have hXz : X.heap.size = w.heap.size + 2 := by rw [hX]; simp
  obtain ⟨T, hT⟩ : ∃ T, T = txt (keyF s d) := ⟨_, rfl⟩
  have hk := keyText_any s d X hs hd
  rw [← hT] at hk
  have HK := Lib.hid hk
  have HT := Lib.hid hT
  have HX := Lib.hid hX
  have HX0 := Lib.hid hX0
  have HX1 := Lib.hid hX1
  have HBX := Lib.hid hBX
  have HSL := Lib.hid hsl
  have c0 : X.cell? ⟨w.heap.size, 0, none⟩ = some (.int .i64 s) := Joins.cell_of_block hX0 0
  clear hne hX hX0 hX1 hBX hT hk hsl
  go_enter Tryd.func6, Tryd.ntmps6
  go_upto_region 5 with fail
  rw [← HX.out]
  go_wp2_with fail
  refine HK.out.mono ?_
  rintro e V ⟨rfl, hV⟩
  have hxz := hV.size
  have hx0 := (hV.block _ (lt_of_block HX0.out)).trans HX0.out
  have hx1 := (hV.block _ (lt_of_block HX1.out)).trans HX1.out
  have HB1 := Lib.hid (HBX.out.trans (hV.mono (by omega)))
  have d0 : V.cell? ⟨w.heap.size, 0, none⟩ = some (.int .i64 s) := Joins.cell_of_block hx0 0
  have d1 : V.cell? ⟨w.heap.size, 1, none⟩ = some (.slice a n cap) := Joins.cell_of_block hx0 1
  have HX1' := Lib.hid hx1
  have hw0 : w.heap.size < V.heap.size := by omega
  have hw1 : w.heap.size + 1 < V.heap.size := by omega
  have hwr : IntKind.i64.wrap ((s : Int) + 1) = (s : Int) + 1 := by rw [IntKind.wrap_i64]; omega
  have hsrc : ∀ W, Below V.heap.size V W → Src W 3 a n (ks.flatMap encKey) := fun W hW => Src.of_sl (HSL.out.below (by omega) (HB1.out.trans (hW.mono (by omega))))
  have hone : ∀ u ∈ ks.flatMap encKey, u.oneCell' = true := enc_one ks
  obtain ⟨FL, hFL⟩ : ∃ FL, FL = ks.flatMap encKey := ⟨_, rfl⟩
  rw [← hFL] at hsrc hone
  have HFL := Lib.hid hFL
  have HSRC := Lib.hid hsrc
  have HONE := Lib.hid hone
  have k1 : n ≤ maxLen := by unfold maxLen; omega
  have k2 : n + 1 ≤ maxLen := by unfold maxLen; omega
  clear hV hx0 hx1 hsrc hone hFL c0 HK
  go_upto_region 6 with fail
  go_cut [12] from 39 to 51 (fun s12 wx => ∃ N, s12 = .pointer (some ⟨N, 0, none⟩) ∧ Aside (MadeR V N s n (FL ++ encKey ⟨T, name, r⟩) wx))
  case first =>
    have b0 : Below V.heap.size V V.drew := (Below.refl V.heap.size V).drew
    have hbS : Below V.heap.size V (V.drew.alloc (.cells #[.string T, .string name, .int .i64 r] 36)) := b0.alloc (Nat.le_refl _) _
    have hbT : Below V.heap.size V (V.drew.alloc (.cells #[.int .i64 0, .slice none 0 0] 24)) := b0.alloc (Nat.le_refl _) _
    have hbST : Below V.heap.size V ((V.drew.alloc (.cells #[.string T, .string name, .int .i64 r] 36)).alloc (.cells #[.int .i64 0, .slice none 0 0] 24)) := hbS.alloc (by simp) _
    have hbTS : Below V.heap.size V ((V.drew.alloc (.cells #[.int .i64 0, .slice none 0 0] 24)).alloc (.cells #[.string T, .string name, .int .i64 r] 36)) := hbT.alloc (by simp) _
    have B0 := Lib.hid b0
    have BS := Lib.hid hbS
    have BT := Lib.hid hbT
    have BST := Lib.hid hbST
    have BTS := Lib.hid hbTS
    clear b0 hbS hbT hbST hbTS
    have M0 := Lib.hid (show 0 + n ≤ maxLen by omega)
    have M1 := Lib.hid (show (0 + n) * 40 ≤ 140737488355328 by omega)
    have T3 : 0 < 3 := by omega
    have M2 := Lib.hid (show n + 1 ≤ maxLen by omega)
    have M3 := Lib.hid (show (n + 1) * 40 ≤ 140737488355328 by omega)
    have hone1 : ∀ u ∈ encKey ⟨T, name, r⟩, u.oneCell' = true := by simp [encKey, Value.oneCell']
    have ONE1 := Lib.hid hone1
    clear hone1
    go_region_law (first | (refine step_append_any _ rfl (.const (.slice none 0 0)) (.tmp 43) 22 rfl 36 i0 _ 3 40 Tryd.underlying22 hi hz0 hz1 hz2 rfl T3 (.slice none 0 0) 0 [] rfl (Row.nil _ _ _) a n cap FL rfl (HSRC.out _ B0.out) HONE.out M0.out M1.out _ rfl ?_; intro v1 w1 hrow1 hg1 hat1; rw [Nat.zero_add, List.nil_append] at hrow1; obtain ⟨va, vc, hv1, -, -, -⟩ := hrow1.form; subst hv1; obtain ⟨q1, q2, q3⟩ := rk_first B0.out hg1 hrow1 hat1; have Q1 := Lib.hid q1; have Q2 := Lib.hid q2; have Q3 := Lib.hid q3; have hz1' := q1.below.size; have d0' := (q1.below.cell (p := ⟨w.heap.size, 0, none⟩) hw0).trans d0; have d1' := (q1.below.cell (p := ⟨w.heap.size, 1, none⟩) hw0).trans d1; have hw2 := Nat.lt_of_lt_of_le hw0 hz1'; have hz2' := q2.size; simp at hz2'; have PS : RowKit.Hid (RK V ((w1.alloc (.cells #[.string T, .string name, .int .i64 r] 36))) n va vc FL ∧ Src ((w1.alloc (.cells #[.string T, .string name, .int .i64 r] 36))) 3 (some ⟨w1.heap.size, 0, none⟩) 1 (encKey ⟨T, name, r⟩)) := Lib.hid ⟨Q1.out.up (Below.alloc (Below.refl _ _) (by simp) _), src_key (blk_last _ _ (by simp))⟩; have PST : RowKit.Hid (RK V (((w1.alloc (.cells #[.string T, .string name, .int .i64 r] 36)).alloc (.cells #[.int .i64 0, .slice none 0 0] 24))) n va vc FL ∧ Src (((w1.alloc (.cells #[.string T, .string name, .int .i64 r] 36)).alloc (.cells #[.int .i64 0, .slice none 0 0] 24))) 3 (some ⟨w1.heap.size, 0, none⟩) 1 (encKey ⟨T, name, r⟩)) := Lib.hid ⟨Q1.out.up (Below.alloc (Below.alloc (Below.refl _ _) (by simp) _) (by simp) _), src_key (blk_alloc (blk_last _ _ (by simp)) _)⟩; have PTS : RowKit.Hid (RK V (((w1.alloc (.cells #[.int .i64 0, .slice none 0 0] 24)).alloc (.cells #[.string T, .string name, .int .i64 r] 36))) n va vc FL ∧ Src (((w1.alloc (.cells #[.int .i64 0, .slice none 0 0] 24)).alloc (.cells #[.string T, .string name, .int .i64 r] 36))) 3 (some ⟨w1.heap.size + 1, 0, none⟩) 1 (encKey ⟨T, name, r⟩)) := Lib.hid ⟨Q1.out.up (Below.alloc (Below.alloc (Below.refl _ _) (by simp) _) (by simp) _), src_key (blk_last _ _ (by simp))⟩; have PSd : RowKit.Hid (RK V ((w1.alloc (.cells #[.string T, .string name, .int .i64 r] 36)).drew) n va vc FL ∧ Src ((w1.alloc (.cells #[.string T, .string name, .int .i64 r] 36)).drew) 3 (some ⟨w1.heap.size, 0, none⟩) 1 (encKey ⟨T, name, r⟩)) := Lib.hid ⟨(Q1.out.up (Below.alloc (Below.refl _ _) (by simp) _)).drew, src_key (blk_last w1 _ rfl)⟩; clear q1 q2 q3) | (refine step_append_any _ rfl (.const (.slice none 0 0)) (.tmp 43) 22 rfl 36 i0 _ 3 40 Tryd.underlying22 hi hz0 hz1 hz2 rfl T3 (.slice none 0 0) 0 [] rfl (Row.nil _ _ _) a n cap FL rfl (HSRC.out _ BT.out) HONE.out M0.out M1.out _ rfl ?_; intro v1 w1 hrow1 hg1 hat1; rw [Nat.zero_add, List.nil_append] at hrow1; obtain ⟨va, vc, hv1, -, -, -⟩ := hrow1.form; subst hv1; obtain ⟨q1, q2, q3⟩ := rk_first BT.out hg1 hrow1 hat1; have Q1 := Lib.hid q1; have Q2 := Lib.hid q2; have Q3 := Lib.hid q3; have hz1' := q1.below.size; have d0' := (q1.below.cell (p := ⟨w.heap.size, 0, none⟩) hw0).trans d0; have d1' := (q1.below.cell (p := ⟨w.heap.size, 1, none⟩) hw0).trans d1; have hw2 := Nat.lt_of_lt_of_le hw0 hz1'; have hz2' := q2.size; simp at hz2'; have KT : RowKit.Hid (w1.heap[V.heap.size]? = some (.cells #[.int .i64 0, .slice none 0 0] 24 (0, 0))) := Lib.hid ((Q2.out.block _ (by simp <;> omega)).trans (blk_last _ _ (by simp))); have KN : ∀ g, (Value.slice va n vc).ownBlock = some g → V.heap.size < g := (fun g hg => by have := Q3.out g hg; simp at this; omega); have PU : RowKit.Hid (RK V ((w1.alloc (.cells #[.string T, .string name, .int .i64 r] 36))) n va vc FL ∧ Src ((w1.alloc (.cells #[.string T, .string name, .int .i64 r] 36))) 3 (some ⟨w1.heap.size, 0, none⟩) 1 (encKey ⟨T, name, r⟩)) := Lib.hid ⟨Q1.out.up (Below.alloc (Below.refl _ _) (by simp) _), src_key (blk_last _ _ (by simp))⟩; clear q1 q2 q3) | (refine step_append_any _ rfl (.const (.slice none 0 0)) (.tmp 43) 22 rfl 36 i0 _ 3 40 Tryd.underlying22 hi hz0 hz1 hz2 rfl T3 (.slice none 0 0) 0 [] rfl (Row.nil _ _ _) a n cap FL rfl (HSRC.out _ BS.out) HONE.out M0.out M1.out _ rfl ?_; intro v1 w1 hrow1 hg1 hat1; rw [Nat.zero_add, List.nil_append] at hrow1; obtain ⟨va, vc, hv1, -, -, -⟩ := hrow1.form; subst hv1; obtain ⟨q1, q2, q3⟩ := rk_first BS.out hg1 hrow1 hat1; have Q1 := Lib.hid q1; have Q2 := Lib.hid q2; have Q3 := Lib.hid q3; have hz1' := q1.below.size; have d0' := (q1.below.cell (p := ⟨w.heap.size, 0, none⟩) hw0).trans d0; have d1' := (q1.below.cell (p := ⟨w.heap.size, 1, none⟩) hw0).trans d1; have hw2 := Nat.lt_of_lt_of_le hw0 hz1'; have hz2' := q2.size; simp at hz2'; have PA : RowKit.Hid (RK V (w1) n va vc FL ∧ Src (w1) 3 (some ⟨V.heap.size, 0, none⟩) 1 (encKey ⟨T, name, r⟩)) := Lib.hid ⟨Q1.out, src_key ((Q2.out.block _ (by simp <;> omega)).trans (blk_last _ _ (by simp)))⟩; have PB : RowKit.Hid (RK V ((w1.alloc (.cells #[.int .i64 0, .slice none 0 0] 24))) n va vc FL ∧ Src ((w1.alloc (.cells #[.int .i64 0, .slice none 0 0] 24))) 3 (some ⟨V.heap.size, 0, none⟩) 1 (encKey ⟨T, name, r⟩)) := Lib.hid ⟨Q1.out.up (Below.alloc (Below.refl _ _) (by simp) _), src_key (blk_alloc ((Q2.out.block _ (by simp <;> omega)).trans (blk_last _ _ (by simp))) _)⟩; clear q1 q2 q3) | (refine step_append_any _ rfl (.const (.slice none 0 0)) (.tmp 43) 22 rfl 36 i0 _ 3 40 Tryd.underlying22 hi hz0 hz1 hz2 rfl T3 (.slice none 0 0) 0 [] rfl (Row.nil _ _ _) a n cap FL rfl (HSRC.out _ BST.out) HONE.out M0.out M1.out _ rfl ?_; intro v1 w1 hrow1 hg1 hat1; rw [Nat.zero_add, List.nil_append] at hrow1; obtain ⟨va, vc, hv1, -, -, -⟩ := hrow1.form; subst hv1; obtain ⟨q1, q2, q3⟩ := rk_first BST.out hg1 hrow1 hat1; have Q1 := Lib.hid q1; have Q2 := Lib.hid q2; have Q3 := Lib.hid q3; have hz1' := q1.below.size; have d0' := (q1.below.cell (p := ⟨w.heap.size, 0, none⟩) hw0).trans d0; have d1' := (q1.below.cell (p := ⟨w.heap.size, 1, none⟩) hw0).trans d1; have hw2 := Nat.lt_of_lt_of_le hw0 hz1'; have hz2' := q2.size; simp at hz2'; have KT : RowKit.Hid (w1.heap[V.heap.size + 1]? = some (.cells #[.int .i64 0, .slice none 0 0] 24 (0, 0))) := Lib.hid ((Q2.out.block _ (by simp <;> omega)).trans (blk_last _ _ (by simp))); have KN : ∀ g, (Value.slice va n vc).ownBlock = some g → V.heap.size + 1 < g := (fun g hg => by have := Q3.out g hg; simp at this; omega); have PD : RowKit.Hid (RK V (w1) n va vc FL ∧ Src (w1) 3 (some ⟨V.heap.size, 0, none⟩) 1 (encKey ⟨T, name, r⟩)) := Lib.hid ⟨Q1.out, src_key ((Q2.out.block _ (by simp <;> omega)).trans (blk_alloc (blk_last _ _ (by simp)) _))⟩; clear q1 q2 q3) | (refine step_append_any _ rfl (.const (.slice none 0 0)) (.tmp 43) 22 rfl 36 i0 _ 3 40 Tryd.underlying22 hi hz0 hz1 hz2 rfl T3 (.slice none 0 0) 0 [] rfl (Row.nil _ _ _) a n cap FL rfl (HSRC.out _ BTS.out) HONE.out M0.out M1.out _ rfl ?_; intro v1 w1 hrow1 hg1 hat1; rw [Nat.zero_add, List.nil_append] at hrow1; obtain ⟨va, vc, hv1, -, -, -⟩ := hrow1.form; subst hv1; obtain ⟨q1, q2, q3⟩ := rk_first BTS.out hg1 hrow1 hat1; have Q1 := Lib.hid q1; have Q2 := Lib.hid q2; have Q3 := Lib.hid q3; have hz1' := q1.below.size; have d0' := (q1.below.cell (p := ⟨w.heap.size, 0, none⟩) hw0).trans d0; have d1' := (q1.below.cell (p := ⟨w.heap.size, 1, none⟩) hw0).trans d1; have hw2 := Nat.lt_of_lt_of_le hw0 hz1'; have hz2' := q2.size; simp at hz2'; have KT : RowKit.Hid (w1.heap[V.heap.size]? = some (.cells #[.int .i64 0, .slice none 0 0] 24 (0, 0))) := Lib.hid ((Q2.out.block _ (by simp <;> omega)).trans (blk_alloc (blk_last _ _ (by simp)) _)); have KN : ∀ g, (Value.slice va n vc).ownBlock = some g → V.heap.size < g := (fun g hg => by have := Q3.out g hg; simp at this; omega); have PC : RowKit.Hid (RK V (w1) n va vc FL ∧ Src (w1) 3 (some ⟨V.heap.size + 1, 0, none⟩) 1 (encKey ⟨T, name, r⟩)) := Lib.hid ⟨Q1.out, src_key ((Q2.out.block _ (by simp <;> omega)).trans (blk_last _ _ (by simp)))⟩; clear q1 q2 q3) | (refine step_append_any _ rfl (.tmp 44) (.tmp 49) 22 rfl 36 i0 _ 3 40 Tryd.underlying22 hi hz0 hz1 hz2 rfl T3 (.slice va n vc) n FL rfl PSd.out.1.row (some ⟨w1.heap.size, 0, none⟩) 1 1 (encKey ⟨T, name, r⟩) rfl PSd.out.2 ONE1.out M2.out M3.out _ rfl ?_; intro v2 w2 hrow2 hg2 hat2; obtain ⟨vb, vd, hv2, -, -, -⟩ := hrow2.form; subst hv2; have hR2 := rk_second PSd.out.1 hg2 hrow2; have d0'' := (hR2.1.cell (p := ⟨w.heap.size, 0, none⟩) hw0).trans d0; have d1'' := (hR2.1.cell (p := ⟨w.heap.size, 1, none⟩) hw0).trans d1; have hw3 := Nat.lt_of_lt_of_le hw0 hR2.1.size; have R2 := Lib.hid hR2; clear hR2; skip) | (refine step_append_any _ rfl (.tmp 44) (.tmp 49) 22 rfl 36 i0 _ 3 40 Tryd.underlying22 hi hz0 hz1 hz2 rfl T3 (.slice va n vc) n FL rfl PST.out.1.row (some ⟨w1.heap.size, 0, none⟩) 1 1 (encKey ⟨T, name, r⟩) rfl PST.out.2 ONE1.out M2.out M3.out _ rfl ?_; intro v2 w2 hrow2 hg2 hat2; obtain ⟨vb, vd, hv2, -, -, -⟩ := hrow2.form; subst hv2; have hR2 := rk_second PST.out.1 hg2 hrow2; have d0'' := (hR2.1.cell (p := ⟨w.heap.size, 0, none⟩) hw0).trans d0; have d1'' := (hR2.1.cell (p := ⟨w.heap.size, 1, none⟩) hw0).trans d1; have hw3 := Nat.lt_of_lt_of_le hw0 hR2.1.size; have R2 := Lib.hid hR2; clear hR2; obtain ⟨p1, p2, p3, p4, p5⟩ := rk_table (N := w1.heap.size + 1) PST.out.1 hg2 hat2 (blk_last _ _ (by simp)) (fun e => by have := Q1.out.row.lt _ e; omega); have p6 := p5 0; have p7 := p5 1; have HP1 := Lib.hid p1; have HP2 := Lib.hid p2; clear p1 p2 p5) | (refine step_append_any _ rfl (.tmp 44) (.tmp 49) 22 rfl 36 i0 _ 3 40 Tryd.underlying22 hi hz0 hz1 hz2 rfl T3 (.slice va n vc) n FL rfl PTS.out.1.row (some ⟨w1.heap.size + 1, 0, none⟩) 1 1 (encKey ⟨T, name, r⟩) rfl PTS.out.2 ONE1.out M2.out M3.out _ rfl ?_; intro v2 w2 hrow2 hg2 hat2; obtain ⟨vb, vd, hv2, -, -, -⟩ := hrow2.form; subst hv2; have hR2 := rk_second PTS.out.1 hg2 hrow2; have d0'' := (hR2.1.cell (p := ⟨w.heap.size, 0, none⟩) hw0).trans d0; have d1'' := (hR2.1.cell (p := ⟨w.heap.size, 1, none⟩) hw0).trans d1; have hw3 := Nat.lt_of_lt_of_le hw0 hR2.1.size; have R2 := Lib.hid hR2; clear hR2; obtain ⟨p1, p2, p3, p4, p5⟩ := rk_table (N := w1.heap.size) PTS.out.1 hg2 hat2 (blk_alloc (blk_last w1 _ rfl) _) (fun e => by have := Q1.out.row.lt _ e; omega); have p6 := p5 0; have p7 := p5 1; have HP1 := Lib.hid p1; have HP2 := Lib.hid p2; clear p1 p2 p5) | (refine step_append_any _ rfl (.tmp 44) (.tmp 49) 22 rfl 36 i0 _ 3 40 Tryd.underlying22 hi hz0 hz1 hz2 rfl T3 (.slice va n vc) n FL rfl PU.out.1.row (some ⟨w1.heap.size, 0, none⟩) 1 1 (encKey ⟨T, name, r⟩) rfl PU.out.2 ONE1.out M2.out M3.out _ rfl ?_; intro v2 w2 hrow2 hg2 hat2; obtain ⟨vb, vd, hv2, -, -, -⟩ := hrow2.form; subst hv2; have hR2 := rk_second PU.out.1 hg2 hrow2; have d0'' := (hR2.1.cell (p := ⟨w.heap.size, 0, none⟩) hw0).trans d0; have d1'' := (hR2.1.cell (p := ⟨w.heap.size, 1, none⟩) hw0).trans d1; have hw3 := Nat.lt_of_lt_of_le hw0 hR2.1.size; have R2 := Lib.hid hR2; clear hR2; obtain ⟨p1, p2, p3, p4, p5⟩ := rk_table (N := V.heap.size) PU.out.1 hg2 hat2 (blk_alloc KT.out _) (fun e => by have := KN _ e; omega); have p6 := p5 0; have p7 := p5 1; have HP1 := Lib.hid p1; have HP2 := Lib.hid p2; clear p1 p2 p5) | (refine step_append_any _ rfl (.tmp 44) (.tmp 49) 22 rfl 36 i0 _ 3 40 Tryd.underlying22 hi hz0 hz1 hz2 rfl T3 (.slice va n vc) n FL rfl PS.out.1.row (some ⟨w1.heap.size, 0, none⟩) 1 1 (encKey ⟨T, name, r⟩) rfl PS.out.2 ONE1.out M2.out M3.out _ rfl ?_; intro v2 w2 hrow2 hg2 hat2; obtain ⟨vb, vd, hv2, -, -, -⟩ := hrow2.form; subst hv2; have hR2 := rk_second PS.out.1 hg2 hrow2; have d0'' := (hR2.1.cell (p := ⟨w.heap.size, 0, none⟩) hw0).trans d0; have d1'' := (hR2.1.cell (p := ⟨w.heap.size, 1, none⟩) hw0).trans d1; have hw3 := Nat.lt_of_lt_of_le hw0 hR2.1.size; have R2 := Lib.hid hR2; clear hR2; skip) | (refine step_append_any _ rfl (.tmp 44) (.tmp 49) 22 rfl 36 i0 _ 3 40 Tryd.underlying22 hi hz0 hz1 hz2 rfl T3 (.slice va n vc) n FL rfl PB.out.1.row (some ⟨V.heap.size, 0, none⟩) 1 1 (encKey ⟨T, name, r⟩) rfl PB.out.2 ONE1.out M2.out M3.out _ rfl ?_; intro v2 w2 hrow2 hg2 hat2; obtain ⟨vb, vd, hv2, -, -, -⟩ := hrow2.form; subst hv2; have hR2 := rk_second PB.out.1 hg2 hrow2; have d0'' := (hR2.1.cell (p := ⟨w.heap.size, 0, none⟩) hw0).trans d0; have d1'' := (hR2.1.cell (p := ⟨w.heap.size, 1, none⟩) hw0).trans d1; have hw3 := Nat.lt_of_lt_of_le hw0 hR2.1.size; have R2 := Lib.hid hR2; clear hR2; obtain ⟨p1, p2, p3, p4, p5⟩ := rk_table (N := w1.heap.size) PB.out.1 hg2 hat2 (blk_last _ _ (by simp)) (fun e => by have := Q1.out.row.lt _ e; omega); have p6 := p5 0; have p7 := p5 1; have HP1 := Lib.hid p1; have HP2 := Lib.hid p2; clear p1 p2 p5) | (refine step_append_any _ rfl (.tmp 44) (.tmp 49) 22 rfl 36 i0 _ 3 40 Tryd.underlying22 hi hz0 hz1 hz2 rfl T3 (.slice va n vc) n FL rfl PD.out.1.row (some ⟨V.heap.size, 0, none⟩) 1 1 (encKey ⟨T, name, r⟩) rfl PD.out.2 ONE1.out M2.out M3.out _ rfl ?_; intro v2 w2 hrow2 hg2 hat2; obtain ⟨vb, vd, hv2, -, -, -⟩ := hrow2.form; subst hv2; have hR2 := rk_second PD.out.1 hg2 hrow2; have d0'' := (hR2.1.cell (p := ⟨w.heap.size, 0, none⟩) hw0).trans d0; have d1'' := (hR2.1.cell (p := ⟨w.heap.size, 1, none⟩) hw0).trans d1; have hw3 := Nat.lt_of_lt_of_le hw0 hR2.1.size; have R2 := Lib.hid hR2; clear hR2; obtain ⟨p1, p2, p3, p4, p5⟩ := rk_table (N := V.heap.size + 1) PD.out.1 hg2 hat2 (KT.out) (fun e => by have := KN _ e; omega); have p6 := p5 0; have p7 := p5 1; have HP1 := Lib.hid p1; have HP2 := Lib.hid p2; clear p1 p2 p5) | (refine step_append_any _ rfl (.tmp 44) (.tmp 49) 22 rfl 36 i0 _ 3 40 Tryd.underlying22 hi hz0 hz1 hz2 rfl T3 (.slice va n vc) n FL rfl PA.out.1.row (some ⟨V.heap.size, 0, none⟩) 1 1 (encKey ⟨T, name, r⟩) rfl PA.out.2 ONE1.out M2.out M3.out _ rfl ?_; intro v2 w2 hrow2 hg2 hat2; obtain ⟨vb, vd, hv2, -, -, -⟩ := hrow2.form; subst hv2; have hR2 := rk_second PA.out.1 hg2 hrow2; have d0'' := (hR2.1.cell (p := ⟨w.heap.size, 0, none⟩) hw0).trans d0; have d1'' := (hR2.1.cell (p := ⟨w.heap.size, 1, none⟩) hw0).trans d1; have hw3 := Nat.lt_of_lt_of_le hw0 hR2.1.size; have R2 := Lib.hid hR2; clear hR2; skip) | (refine step_append_any _ rfl (.tmp 44) (.tmp 49) 22 rfl 36 i0 _ 3 40 Tryd.underlying22 hi hz0 hz1 hz2 rfl T3 (.slice va n vc) n FL rfl PC.out.1.row (some ⟨V.heap.size + 1, 0, none⟩) 1 1 (encKey ⟨T, name, r⟩) rfl PC.out.2 ONE1.out M2.out M3.out _ rfl ?_; intro v2 w2 hrow2 hg2 hat2; obtain ⟨vb, vd, hv2, -, -, -⟩ := hrow2.form; subst hv2; have hR2 := rk_second PC.out.1 hg2 hrow2; have d0'' := (hR2.1.cell (p := ⟨w.heap.size, 0, none⟩) hw0).trans d0; have d1'' := (hR2.1.cell (p := ⟨w.heap.size, 1, none⟩) hw0).trans d1; have hw3 := Nat.lt_of_lt_of_le hw0 hR2.1.size; have R2 := Lib.hid hR2; clear hR2; obtain ⟨p1, p2, p3, p4, p5⟩ := rk_table (N := V.heap.size) PC.out.1 hg2 hat2 (KT.out) (fun e => by have := KN _ e; omega); have p6 := p5 0; have p7 := p5 1; have HP1 := Lib.hid p1; have HP2 := Lib.hid p2; clear p1 p2 p5))
    all_goals
      go_wp2_with fail
      go_meet
      first
      | exact ⟨_, rfl, madeR_new R2.out⟩
      | (refine ⟨_, rfl, madeR_store R2.out HP1.out HP2.out ?_⟩; omega)
  case rest =>
    obtain ⟨N, rfl, HM⟩ := hcut
    obtain ⟨va, vc, m1, m2, m3, m4⟩ := HM.out
    have hzc := m4.size
    have hx1 := (m4.block _ hw1).trans HX1'.out
    have e0 : wc.cell? ⟨N, 0, none⟩ = some (.int .i64 ((s : Int) + 1)) := Joins.cell_of_block m1 0
    have e1 : wc.cell? ⟨N, 1, none⟩ = some (.slice va (n + 1) vc) := Joins.cell_of_block m1 1
    have x0 : wc.cell? ⟨w.heap.size + 1, 0, none⟩ = some (.int .i64 0) := Joins.cell_of_block hx1 0
    have x1 : wc.cell? ⟨w.heap.size + 1, 1, none⟩ = some (.slice none 0 0) := Joins.cell_of_block hx1 1
    have fx := fun j => Joins.unfrozen_of_block hx1 j
    have hB9 := HB1.out.trans (m4.mono HB1.out.size)
    have hfin := refm_end m1 hx1 hB9 m2 m3 hw1
    have HFIN := Lib.hid hfin
    clear m1 m2 hx1 hB9 HM hfin
    go_upto_region 7 with fail
    go_wp2_with fail
    obtain ⟨W9, hW9⟩ : ∃ W9, W9 = (wc.setCell ⟨w.heap.size + 1, 0, none⟩ (.int .i64 ((s : Int) + 1))).setCell ⟨w.heap.size + 1, 1, none⟩ (.slice va (n + 1) vc) := ⟨_, rfl⟩
    rw [← hW9]
    obtain ⟨r0, r1, q1, q2'⟩ := HFIN.out W9 hW9
    have q2 := q2' hn
    refine bodyPost_ret (v := .tuple #[.agg #[.int .i64 ((s : Int) + 1), .slice va (n + 1) vc], .string T, .int .i64 0]) (by simp [results, Tryd.results6, go_sem, r0, r1]) rfl ⟨.slice va (n + 1) vc, by rw [HT.out], q1, ?_⟩
    rw [HFL.out, HT.out] at q2
    rw [← HNE.out, List.flatMap_append, List.flatMap_cons, List.flatMap_nil, List.append_nil]
    exact q2
end Go.Proofs.YtjbkfkgdpbjliaaDoor
