/-
  An arena, a store and the numbers that were made, side by side in memory; The law's ids: the number that a small number stands for.
-/
import Derived.Test.YtdmamecfmfhlmaaZArenaPlays45
import Derived.Test.YtdmamecfmfhlmaaZArenaPlays47
namespace Go.Proofs.Ytdmamecfmfhlmaa
set_option maxRecDepth 100000
open Go.RowKit

theorem IsRe.keep {b : Nat} {S : RSt} {w w' : World} {F G : Nat → Prop} (h : IsRe b S w F) (k : Keeps G w w') (hd : ∀ i, F i → ¬ G i) : IsRe b S w' F := by
  obtain ⟨_, _, _, h⟩ := h
  exact ⟨_, _, _, h.keep k hd⟩
theorem IsRe.lt {b : Nat} {S : RSt} {w : World} {F : Nat → Prop} (h : IsRe b S w F) : ∀ i, F i → i < w.heap.size := by obtain ⟨_, _, _, h⟩ := h; exact h.lt
theorem IsAr.good {b : Nat} {S : ArS} {w : World} {F : Nat → Prop} (h : IsAr b S w F) : ∀ i x, atL S.L i = some x → GoodE x := by obtain ⟨_, _, _, _, _, _, _, _, h⟩ := h; exact h.good
/-- The law's ids in memory. -/
structure IdsAt (bd : Nat) (dv : Value) (D : List Nat) (w : World) (H : Nat → Prop) : Prop where
  own : w.heap[bd]? = some (.cells #[dv] 59 (0, 0))
  row : Row w 3 1 dv D.length (D.map idV)
  hb : H bd
  hv : ∀ q, dv.ownBlock = some q → H q
  lt : ∀ i, H i → i < w.heap.size
theorem IdsAt.keep {bd : Nat} {dv : Value} {D : List Nat} {w w' : World} {H G : Nat → Prop} (h : IdsAt bd dv D w H) (k : Keeps G w w') (hd : ∀ i, H i → ¬ G i) : IdsAt bd dv D w' H :=
  ⟨(k.block bd (h.lt bd h.hb) (hd bd h.hb)).trans h.own, h.row.keep fun q hq => k.block q (h.row.lt q hq) (hd q (h.hv q hq)), h.hb, h.hv, fun i hi => Nat.lt_of_lt_of_le (h.lt i hi) k.size⟩
structure Trio (ba br bd B : Nat) (P : Nat → Prop) (X : World) (S : ArS) (R : RSt) (D : List Nat) (w : World) : Prop where
  mem : ∃ F G H dv, IsAr ba S w F ∧ IsRe br R w G ∧ IdsAt bd dv D w H ∧ (∀ i, F i → ¬ G i) ∧ (∀ i, F i → ¬ H i) ∧ (∀ i, G i → ¬ H i) ∧ ∀ i, F i ∨ G i ∨ H i → B ≤ i ∧ ¬ P i
  keep : Keeps (fun i => B ≤ i ∧ ¬ P i) X w
  boxes : ∀ i, P i → i < X.heap.size
  low : B ≤ X.heap.size
section
variable {ba br bd B : Nat} {P : Nat → Prop} {X : World} {S : ArS} {R : RSt} {D : List Nat} {w w' : World}
theorem Trio.below (h : Trio ba br bd B P X S R D w) (hb : Below w.heap.size w w') : Trio ba br bd B P X S R D w' := by
  obtain ⟨F, G, H, dv, h1, h2, h3, h4, h5, h6, h7⟩ := h.mem
  have k : Keeps (fun _ => False) w w' := Keeps.of_below hb
  exact ⟨⟨F, G, H, dv, h1.keep k (fun _ _ h => h), h2.keep k (fun _ _ h => h), h3.keep k (fun _ _ h => h), h4, h5, h6, h7⟩, h.keep.below hb, h.boxes, h.low⟩
theorem Trio.fresh (h : Trio ba br bd B P X S R D w) {i : Nat} (hi : w.heap.size ≤ i) : B ≤ i ∧ ¬ P i := by
  have h1 := h.keep.size
  have h2 := h.low
  exact ⟨by omega, fun hp => by have := h.boxes i hp; omega⟩
/-- The arena turns. -/
theorem Trio.ar (h : Trio ba br bd B P X S R D w) : ∃ F, IsAr ba S w F ∧ ∀ S' w' F', IsAr ba S' w' F' → (∀ i, F' i → F i ∨ w.heap.size ≤ i) → Keeps F w w' → Trio ba br bd B P X S' R D w' := by
  obtain ⟨F, G, H, dv, h1, h2, h3, h4, h5, h6, h7⟩ := h.mem
  refine ⟨F, h1, fun S' w' F' g1 g2 g3 => ⟨⟨F', G, H, dv, g1, h2.keep g3 (fun i hi hf => h4 i hf hi), h3.keep g3 (fun i hi hf => h5 i hf hi), fun i hi hg => ?_, fun i hi hg => ?_, h6, fun i hi => ?_⟩, ?_, h.boxes, h.low⟩⟩
  · rcases g2 i hi with e | e
    · exact h4 i e hg
    · have := h2.lt i hg; omega
  · rcases g2 i hi with e | e
    · exact h5 i e hg
    · have := h3.lt i hg; omega
  · rcases hi with hi | hi
    · rcases g2 i hi with e | e
      · exact h7 i (.inl e)
      · exact h.fresh e
    · exact h7 i (.inr hi)
  · exact h.keep.trans g3 fun i _ hf => h7 i (.inl hf)
/-- The store turns. -/
theorem Trio.re (h : Trio ba br bd B P X S R D w) : ∃ G, IsRe br R w G ∧ ∀ R' w' G', IsRe br R' w' G' → (∀ i, G' i → G i ∨ w.heap.size ≤ i) → Keeps G w w' → Trio ba br bd B P X S R' D w' := by
  obtain ⟨F, G, H, dv, h1, h2, h3, h4, h5, h6, h7⟩ := h.mem
  refine ⟨G, h2, fun R' w' G' g1 g2 g3 => ⟨⟨F, G', H, dv, h1.keep g3 (fun i hi hf => h4 i hi hf), g1, h3.keep g3 (fun i hi hf => h6 i hf hi), fun i hf hi => ?_, h5, fun i hi hg => ?_, fun i hi => ?_⟩, ?_, h.boxes, h.low⟩⟩
  · rcases g2 i hi with e | e
    · exact h4 i hf e
    · have := h1.lt i hf; omega
  · rcases g2 i hi with e | e
    · exact h6 i e hg
    · have := h3.lt i hg; omega
  · rcases hi with hi | hi | hi
    · exact h7 i (.inl hi)
    · rcases g2 i hi with e | e
      · exact h7 i (.inr (.inl e))
      · exact h.fresh e
    · exact h7 i (.inr (.inr hi))
  · exact h.keep.trans g3 fun i _ hf => h7 i (.inr (.inl hf))
/-- The numbers turn. -/
theorem Trio.ids (h : Trio ba br bd B P X S R D w) : ∃ dv H, IdsAt bd dv D w H ∧ ∀ D' dv' w' H', IdsAt bd dv' D' w' H' → (∀ i, H' i → H i ∨ w.heap.size ≤ i) → Keeps H w w' → Trio ba br bd B P X S R D' w' := by
  obtain ⟨F, G, H, dv, h1, h2, h3, h4, h5, h6, h7⟩ := h.mem
  refine ⟨dv, H, h3, fun D' dv' w' H' g1 g2 g3 => ⟨⟨F, G, H', dv', h1.keep g3 (fun i hi hf => h5 i hi hf), h2.keep g3 (fun i hi hf => h6 i hi hf), g1, h4, fun i hf hi => ?_, fun i hg hi => ?_, fun i hi => ?_⟩, ?_, h.boxes, h.low⟩⟩
  · rcases g2 i hi with e | e
    · exact h5 i hf e
    · have := h1.lt i hf; omega
  · rcases g2 i hi with e | e
    · exact h6 i hg e
    · have := h2.lt i hg; omega
  · rcases hi with hi | hi | hi
    · exact h7 i (.inl hi)
    · exact h7 i (.inr (.inl hi))
    · rcases g2 i hi with e | e
      · exact h7 i (.inr (.inr e))
      · exact h.fresh e
  · exact h.keep.trans g3 fun i _ hf => h7 i (.inr (.inr hf))
theorem Trio.ok (h : Trio ba br bd B P X S R D w) : ArOk S := by obtain ⟨F, G, H, dv, h1, _⟩ := h.mem; exact h1.ok
theorem Trio.goodE (h : Trio ba br bd B P X S R D w) : ∀ i x, atL S.L i = some x → GoodE x := by obtain ⟨F, G, H, dv, h1, _⟩ := h.mem; exact h1.good
/-- A kept box is as it was. -/
theorem Trio.box (h : Trio ba br bd B P X S R D w) {i : Nat} (hi : P i) : w.heap[i]? = X.heap[i]? := h.keep.block i (h.boxes i hi) fun e => e.2 hi
theorem Trio.down (h : Trio ba br bd B P X S R D w) : Below B X w := ⟨h.keep.os, h.keep.tape, h.keep.output, h.keep.size, fun i hi => h.keep.block i (Nat.lt_of_lt_of_le hi h.low) fun e => by omega⟩
/-- New boxes made beside, kept from here on. -/
theorem Trio.boxed (h : Trio ba br bd B P X S R D w) (hb : Below w.heap.size w w') : Trio ba br bd B (fun i => w.heap.size ≤ i ∧ i < w'.heap.size) w' S R D w' := by
  obtain ⟨F, G, H, dv, h1, h2, h3, h4, h5, h6, h7⟩ := h.mem
  have k : Keeps (fun _ => False) w w' := Keeps.of_below hb
  refine ⟨⟨F, G, H, dv, h1.keep k (fun _ _ h => h), h2.keep k (fun _ _ h => h), h3.keep k (fun _ _ h => h), h4, h5, h6, fun i hi => ⟨(h7 i hi).1, fun e => ?_⟩⟩, Keeps.refl _ _, fun i hi => hi.2, ?_⟩
  · rcases hi with hi | hi | hi
    · have := h1.lt i hi; omega
    · have := h2.lt i hi; omega
    · have := h3.lt i hi; omega
  · have := h.low
    have := h.keep.size
    have := hb.size
    omega
end
end Go.Proofs.Ytdmamecfmfhlmaa
namespace Go.Proofs.Ytdmamecfmfhlmaa
set_option maxRecDepth 100000
open Go.RowKit

def ofD (D : List Nat) (n : Int) : Int := if 2 ≤ n ∧ n < 40 ∧ n - 2 < D.length then ((D.getD (D.length - 1 - (n - 2).toNat) 0 : Nat) : Int) else n
theorem ofD_i64 {D : List Nat} (hD : ∀ d ∈ D, d ≤ 1000000) {n : Int} (h : I64 n) : I64 (ofD D n) := by
  unfold ofD
  split
  · next hc =>
    have hl : D.length - 1 - (n - 2).toNat < D.length := by omega
    rw [List.getD_eq_getElem?_getD, List.getElem?_eq_getElem hl]
    have := hD _ (List.getElem_mem hl)
    show I64 ((D[D.length - 1 - (n - 2).toNat] : Nat) : Int)
    unfold I64
    omega
  · exact h
set_option maxHeartbeats 2000000 in
theorem of_any (dv : Value) (D : List Nat) (n : Int) (w : World) (hr : Row w 3 1 dv D.length (D.map idV)) (hD : D.length ≤ 100000) (hn : I64 n) :
    Calls Try.prog 55 #[.agg #[dv], .int .i64 n] w fun e w' => e = .returned (.int .i64 (ofD D n)) ∧ Below w.heap.size w w' := by
  obtain ⟨X, hX⟩ : ∃ X, X = w.alloc (.cells #[dv] 59) := ⟨_, rfl⟩
  have hbX : Below w.heap.size w X := by rw [hX]; exact (Below.refl _ _).alloc (Nat.le_refl _) _
  have hx0 : X.heap[w.heap.size]? = some (.cells #[dv] 59 (0, 0)) := by rw [hX]; exact blk_last w _ rfl
  have hrX : Row X 3 1 dv D.length (D.map idV) := hr.keep fun q hq => hbX.block q (hr.lt q hq)
  obtain ⟨a, c, rfl, -⟩ := hr.form
  obtain ⟨L, hL⟩ : ∃ L, L = D.length := ⟨_, rfl⟩
  rw [← hL] at hrX hx0 hD hX
  have d0 : X.cell? ⟨w.heap.size, 0, none⟩ = some (.slice a L c) := Joins.cell_of_block hx0 0
  rw [← hL]
  have HX := Lib.hid hX
  have HBX := Lib.hid hbX
  have HL := Lib.hid hL
  have HRX := Lib.hid hrX
  unfold I64 at hn
  clear hX hbX hx0 hrX hr hL
  by_cases hc : 2 ≤ n ∧ n < 40 ∧ n - 2 < L
  · obtain ⟨h1, h2, h3⟩ := hc
    obtain ⟨m, hm⟩ : ∃ m : Nat, (m : Int) = n - 2 := ⟨(n - 2).toNat, by omega⟩
    obtain ⟨L1, hL1⟩ : ∃ L1 : Nat, L = L1 + 1 := ⟨L - 1, by omega⟩
    obtain ⟨j, hj⟩ : ∃ j : Nat, L1 = j + m := ⟨L1 - m, by omega⟩
    have hjL : j < L := by omega
    obtain ⟨g, o, rfl, hcell, -, -⟩ := HRX.out.cells (by omega)
    obtain ⟨y, hy⟩ : ∃ y, D[j]? = some y := ⟨_, List.getElem?_eq_getElem (by rw [← HL.out]; exact hjL)⟩
    have ey : X.cell? ⟨g, o + j, none⟩ = some (.int .i64 y) := by
      rw [hcell j (by omega), List.getElem?_map, hy]; rfl
    have HOF := Lib.hid (show ofD D n = y by
      unfold ofD
      rw [← HL.out, if_pos ⟨h1, h2, h3⟩, show L - 1 - (n - 2).toNat = j by omega, List.getD_eq_getElem?_getD, hy]
      rfl)
    have t1 : decide (n ≥ 2) = true := decide_eq_true h1
    have t2 : decide ((2 : Int) ≤ n) = true := decide_eq_true h1
    have t3 : decide (n < 40) = true := decide_eq_true h2
    have e1 : IntKind.i64.wrap (n - 2) = ((m : Nat) : Int) := by rw [IntKind.wrap_i64]; omega
    have e2 : IntKind.i64.wrap ((L : Int) - 1) = ((L1 : Nat) : Int) := by rw [IntKind.wrap_i64]; omega
    have e3 : IntKind.i64.wrap ((L1 : Int) - (m : Int)) = ((j : Nat) : Int) := by rw [IntKind.wrap_i64]; omega
    have t4 : decide ((m : Int) < (L : Int)) = true := decide_eq_true (by omega)
    have t5 : decide (m < L) = true := decide_eq_true (by omega)
    clear hcell hy hm hL1 hj h1 h2 h3
    rw [HOF.out]
    go_enter Try.func55, Try.ntmps55
    go_upto_region 1 with fail
    rw [← HX.out]
    go_wp2_with fail
    go_ret
    exact ⟨rfl, HBX.out⟩
  · have HOF := Lib.hid (show ofD D n = n by unfold ofD; rw [← HL.out, if_neg hc])
    rw [HOF.out]
    by_cases h1 : 2 ≤ n
    · have t1 : decide (n ≥ 2) = true := decide_eq_true h1
      have t2 : decide ((2 : Int) ≤ n) = true := decide_eq_true h1
      by_cases h2 : n < 40
      · have t3 : decide (n < 40) = true := decide_eq_true h2
        obtain ⟨m, hm⟩ : ∃ m : Nat, (m : Int) = n - 2 := ⟨(n - 2).toNat, by omega⟩
        have e1 : IntKind.i64.wrap (n - 2) = ((m : Nat) : Int) := by rw [IntKind.wrap_i64]; omega
        have h3 : ¬ m < L := fun e => hc ⟨h1, h2, by omega⟩
        have t4 : decide ((m : Int) < (L : Int)) = false := decide_eq_false (by omega)
        have t5 : decide (m < L) = false := decide_eq_false h3
        clear hm hc h1 h2
        go_enter Try.func55, Try.ntmps55
        go_upto_region 1 with fail
        rw [← HX.out]
        go_wp2_with fail
        go_ret
        exact ⟨rfl, HBX.out⟩
      · have t3 : decide (n < 40) = false := decide_eq_false h2
        clear hc h1
        go_enter Try.func55, Try.ntmps55
        go_upto_region 1 with fail
        rw [← HX.out]
        go_wp2_with fail
        go_ret
        exact ⟨rfl, HBX.out⟩
    · have t1 : decide (n ≥ 2) = false := decide_eq_false h1
      have t2 : decide ((2 : Int) ≤ n) = false := decide_eq_false h1
      clear hc
      go_enter Try.func55, Try.ntmps55
      go_upto_region 1 with fail
      rw [← HX.out]
      go_wp2_with fail
      go_ret
      exact ⟨rfl, HBX.out⟩
end Go.Proofs.Ytdmamecfmfhlmaa
