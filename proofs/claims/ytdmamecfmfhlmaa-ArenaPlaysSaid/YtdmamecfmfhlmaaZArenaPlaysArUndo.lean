/-
  arena's lose, and Undo.
-/
import Derived.Test.YtdmamecfmfhlmaaZArenaPlays17
import Derived.Test.YtdmamecfmfhlmaaZArenaPlaysArGive
namespace Go.Proofs.Ytdmamecfmfhlmaa
set_option maxRecDepth 100000
open Go.RowKit

theorem not_bit {ma t : Nat} (hm : ma < 18446744073709551616) (ht : t < 64) (hb : ma.testBit t = true) : bits .andNot .u64 (ma : Int) (IntKind.u64.wrap (2 ^ t)) = ((ma ^^^ 2 ^ t : Nat) : Int) := by
  have h2 : 2 ^ t < 18446744073709551616 := Nat.pow_lt_pow_right (n := 64) (by omega) ht
  have e : IntKind.u64.wrap ((2 : Int) ^ t) = ((2 ^ t : Nat) : Int) := by
    rw [IntKind.wrap_u64, show ((2 : Int) ^ t) = ((2 ^ t : Nat) : Int) by rw [Int.natCast_pow]; rfl]
    obtain ⟨p, hp⟩ : ∃ p : Nat, p = 2 ^ t := ⟨_, rfl⟩
    rw [← hp] at h2 ⊢
    omega
  rw [e]
  have h1 : (BitVec.ofInt 64 (ma : Int)).toNat = ma := by
    rw [BitVec.ofInt_natCast, BitVec.toNat_ofNat]; exact Nat.mod_eq_of_lt (by omega)
  have h3 : (BitVec.ofInt 64 ((2 ^ t : Nat) : Int)).toNat = 2 ^ t := by
    rw [BitVec.ofInt_natCast, BitVec.toNat_ofNat]; exact Nat.mod_eq_of_lt (by omega)
  have h4 : bits .andNot .u64 (ma : Int) ((2 ^ t : Nat) : Int) = IntKind.u64.wrap (((BitVec.ofInt 64 (ma : Int) &&& ~~~ BitVec.ofInt 64 ((2 ^ t : Nat) : Int)).toNat : Nat) : Int) := rfl
  have h5 : (BitVec.ofInt 64 (ma : Int) &&& ~~~ BitVec.ofInt 64 ((2 ^ t : Nat) : Int)).toNat = ma ^^^ 2 ^ t := by
    apply Nat.eq_of_testBit_eq
    intro j
    rw [BitVec.toNat_and, Nat.testBit_and, h1, Nat.testBit_xor, Nat.testBit_two_pow]
    by_cases hj : j < 64
    · have h6 : (~~~ BitVec.ofInt 64 ((2 ^ t : Nat) : Int)).toNat.testBit j = !decide (t = j) := by
        rw [← BitVec.getLsbD, BitVec.getLsbD_not, BitVec.getLsbD, h3, Nat.testBit_two_pow]
        simp [hj]
      rw [h6]
      by_cases e : t = j
      · subst e
        rw [hb]; simp
      · simp [e]
    · have h7 : ma.testBit j = false := Nat.testBit_lt_two_pow (Nat.lt_of_lt_of_le hm (show 2 ^ 64 ≤ 2 ^ j from Nat.pow_le_pow_right (by omega) (by omega)))
      rw [h7, Bool.false_and]
      have : ¬ t = j := by omega
      simp [this]
  rw [h4, h5, IntKind.wrap_u64]
  have := xor_lt64 hm ht
  omega
/-- lose, cell by cell. -/
theorem lose_raw (b q o i t N cap ma cn : Nat) (w : World) (hi : i < N) (hN : N ≤ 300000) (ht : t < 64) (c1 : w.cell? ⟨b, 1, none⟩ = some (.slice (some ⟨q, o, none⟩) N cap)) (e7 : w.cell? ⟨q, o + i * 8 + 7, none⟩ = some (.int .u64 ma)) (f7 : w.frozen? ⟨q, o + i * 8 + 7, none⟩ = false) (hma : ma < 18446744073709551616)
    (c4 : w.cell? ⟨b, 4 + t, none⟩ = some (.int .i64 cn)) (f4 : ∀ j, w.frozen? ⟨b, j, none⟩ = false) (hcn : ma.testBit t = true → 1 ≤ cn) (hcb : cn ≤ 300000) (hqb : q ≠ b) (hbl : b < w.heap.size) (hql : q < w.heap.size) :
    Calls Try.prog 91 #[.pointer (some ⟨b, 0, none⟩), .int .i64 t, .int .i64 i] w fun e w' => e = .returned (.tuple #[]) ∧ w'.heap = (if ma.testBit t = true then ((w.setCell ⟨q, o + i * 8 + 7, none⟩ (.int .u64 ((ma ^^^ 2 ^ t : Nat) : Int))).setCell ⟨b, 4 + t, none⟩ (.int .i64 ((cn - 1 : Nat) : Int))).heap else w.heap) ∧ Keeps (fun k => k = b ∨ k = q) w w' := by
  have hbit := bit_u64 ma t
  have hiI : (i : Int) < (N : Int) := by omega
  have hi0 : (0 : Int) ≤ (i : Int) := by omega
  cases hb : ma.testBit t with
  | false =>
    rw [hb] at hbit
    rw [if_neg (by decide)]
    clear hb hcn
    go_enter Try.func91, Try.ntmps91
    go_wp2_with fail
    go_end0
    exact ⟨rfl, rfl, Keeps.refl _ _⟩
  | true =>
    rw [hb] at hbit
    rw [if_pos rfl]
    have h1 := hcn hb
    have hnot := not_bit hma ht hb
    obtain ⟨mm, hmm⟩ : ∃ m, m = ma ^^^ 2 ^ t := ⟨_, rfl⟩
    rw [← hmm] at hnot ⊢
    obtain ⟨W9, hW9⟩ : ∃ W, W = w.setCell ⟨q, o + i * 8 + 7, none⟩ (.int .u64 (mm : Int)) := ⟨_, rfl⟩
    have hbk : W9.heap[b]? = w.heap[b]? := by rw [hW9]; exact Below.heap_setCell _ _ _ _ (by show b ≠ q; exact fun e => hqb e.symm)
    have g4 : W9.cell? ⟨b, 4 + t, none⟩ = some (.int .i64 cn) := (World.cell?_of_block hbk).trans c4
    have fz9 : ∀ j, W9.frozen? ⟨b, j, none⟩ = false := fun j => (World.frozen?_of_block hbk).trans (f4 j)
    have hK9 : Keeps (fun k => k = b ∨ k = q) w W9 := by rw [hW9]; exact (Keeps.refl _ w).setCell (p := ⟨q, o + i * 8 + 7, none⟩) (fun _ => .inr rfl) _
    obtain ⟨c0, hc0⟩ : ∃ c0, c0 = cn - 1 := ⟨_, rfl⟩
    have hcI : (cn : Int) - 1 = (c0 : Int) := by omega
    rw [← hc0]
    have hbl9 : b < W9.heap.size := by rw [hW9]; simpa [World.setCell] using hbl
    have HW9 := Lib.hid hW9
    have HK9 := Lib.hid hK9
    have htI : (t : Int) < 64 := by omega
    have ht0 : (0 : Int) ≤ (t : Int) := by omega
    clear hb hcn hmm hbk hK9 hc0
    rw [← hW9]
    clear hW9
    go_enter Try.func91, Try.ntmps91
    go_upto_region 2 with fail
    rw [← HW9.out]
    clear c1 e7 f7 c4 f4
    go_region
    go_wp2_with fail
    go_end0
    exact ⟨rfl, rfl, (HK9.out.setCell (p := ⟨b, 4 + t, none⟩) (fun _ => .inl rfl) _).drew⟩
/-- Things lost, one behind the other. -/
def loseN (t : Nat) : List Nat → ArS → ArS
  | [], S => S
  | i :: l, S => loseN t l (loseA S t i)
theorem loseN_snoc (t : Nat) : ∀ (l : List Nat) (i : Nat) (S : ArS), loseN t (l ++ [i]) S = loseA (loseN t l S) t i
  | [], _, _ => rfl
  | a :: l, i, S => by
    show loseN t (l ++ [i]) (loseA S t a) = loseA (loseN t l (loseA S t a)) t i
    rw [loseN_snoc t l i]
theorem loseN_len (t : Nat) : ∀ (l : List Nat) (S : ArS), (loseN t l S).L.length = S.L.length
  | [], _ => rfl
  | a :: l, S => by
    show (loseN t l (loseA S t a)).L.length = _
    rw [loseN_len t l, loseA_len]
theorem loseN_add (t s : Nat) : ∀ (l : List Nat) (S : ArS), (loseN t l S).add s = S.add s
  | [], _ => rfl
  | a :: l, S => by
    show (loseN t l (loseA S t a)).add s = _
    rw [loseN_add t s l, loseA_add]
theorem loseN_live (t : Nat) : ∀ (l : List Nat) (S : ArS), liveL (loseN t l S).L = liveL S.L
  | [], _ => rfl
  | a :: l, S => by
    show liveL (loseN t l (loseA S t a)).L = _
    rw [loseN_live t l, lose_live]
/-- Behind some losses: the arena as it will be once the list of what was added is cut. -/
structure UndoSt (b t : Nat) (w : World) (F : Nat → Prop) (Sk : ArS) (lv : Nat) (v : Value) (l : List Nat) (wr : World) : Prop where
  core : ∃ arr v1 v3 bm n fr g vs, wr.heap[b]? = some (.cells arr 91 (0, 0)) ∧ arr[132 + t]? = some v ∧ ArAt b Sk (arr.setIfInBounds (132 + t) (.slice none 0 0)) v1 v3 bm n fr g vs (wr.setCell ⟨b, 132 + t, none⟩ (.slice none 0 0)) F lv (fun _ => False) ∧ ∀ q, v.ownBlock = some q → q ≠ b ∧ v1.ownBlock ≠ some q
  row : Row wr 3 1 v l.length (l.map idV)
  keep : Keeps F w wr
  add : Sk.add t = []
theorem count_pos {L : List (Option Ent)} {i t : Nat} {x : Ent} (hx : atL L i = some x) (hb : x.ma.testBit t = true) : 1 ≤ countL L t := by
  have := count_lost hx hb t
  rw [if_pos rfl] at this
  omega
set_option maxHeartbeats 2000000 in
theorem UndoSt.lose {b t : Nat} {w : World} {F : Nat → Prop} {Sk : ArS} {lv : Nat} {v : Value} {l : List Nat} {wr : World} (h : UndoSt b t w F Sk lv v l wr) (ht : t < 64) {i : Nat} (hi : i < Sk.L.length) :
    Calls Try.prog 91 #[.pointer (some ⟨b, 0, none⟩), .int .i64 t, .int .i64 i] wr fun e w' => e = .returned (.tuple #[]) ∧ UndoSt b t w F (loseA Sk t i) lv v l w' := by
  obtain ⟨arr, v1, v3, bm, n, fr, g, vs, hown, h132, hA, hvd⟩ := h.core
  have hs : arr.size = 197 := by have := hA.size; rwa [Array.size_setIfInBounds] at this
  obtain ⟨q, o, c, hv1, hFq, hqb, hent⟩ := hA.ents
  have hbl : b < wr.heap.size := lt_of_block hown
  obtain ⟨V, hV⟩ : ∃ V, V = wr.setCell ⟨b, 132 + t, none⟩ (.slice none 0 0) := ⟨_, rfl⟩
  rw [← hV] at hA hent
  have hVb : ∀ k, k ≠ b → V.heap[k]? = wr.heap[k]? := fun k hk => by rw [hV]; exact Below.heap_setCell _ _ _ _ hk
  have hVs : V.heap.size = wr.heap.size := by rw [hV]; simp [World.setCell]
  have hcell : ∀ j, j ≠ 132 + t → wr.cell? ⟨b, j, none⟩ = (arr.setIfInBounds (132 + t) (.slice none 0 0))[j]? := fun j hj => by
    rw [Joins.cell_of_block hown, set_at (by omega)]
  have hql : q < wr.heap.size := by rw [← hVs]; exact hA.lt q hFq
  have hqV : ∀ j, wr.cell? ⟨q, j, none⟩ = V.cell? ⟨q, j, none⟩ := fun j => (World.cell?_of_block (hVb q hqb)).symm
  have hqf : ∀ j, wr.frozen? ⟨q, j, none⟩ = V.frozen? ⟨q, j, none⟩ := fun j => (World.frozen?_of_block (hVb q hqb)).symm
  obtain ⟨u, hu⟩ : ∃ u, Sk.L[i]? = some u := ⟨_, List.getElem?_eq_getElem hi⟩
  have e7 : wr.cell? ⟨q, o + i * 8 + 7, none⟩ = some (.int .u64 ((u.getD zeroE).ma : Int)) := by rw [hqV, hent i u hu 7 (by omega)]; rfl
  have hlist := hA.list
  rw [hv1] at hlist
  have f7 : wr.frozen? ⟨q, o + i * 8 + 7, none⟩ = false := by rw [hqf]; exact row_frozen hlist _
  have c1 : wr.cell? ⟨b, 1, none⟩ = some (.slice (some ⟨q, o, none⟩) Sk.L.length c) := by rw [hcell 1 (by omega), hA.c1, hv1]
  have c4 : wr.cell? ⟨b, 4 + t, none⟩ = some (.int .i64 (countL Sk.L t)) := by rw [hcell (4 + t) (by omega)]; exact hA.c4 t ht
  have hN : Sk.L.length ≤ 300000 := by have := hA.ok.long; have := hA.ok.room; omega
  have hcb : countL Sk.L t ≤ 300000 := by have := countL_le Sk.L t; have := hA.ok.live; have := hA.ok.room; omega
  have hma : (u.getD zeroE).ma < 18446744073709551616 := by
    cases u with
    | none => show (0 : Nat) < _; omega
    | some x => exact hA.ok.mask i x (atL_some.2 hu)
  have hcn : (u.getD zeroE).ma.testBit t = true → 1 ≤ countL Sk.L t := fun hb => by
    cases u with
    | none => simp [zeroE] at hb
    | some x => exact count_pos (atL_some.2 hu) hb
  refine (lose_raw b q o i t Sk.L.length c _ _ wr hi hN ht c1 e7 f7 hma c4 (fun j => Joins.unfrozen_of_block hown j) hcn hcb hqb hbl hql).mono ?_
  rintro e w' ⟨rfl, hheap, hk⟩
  refine ⟨rfl, ?_⟩
  have hws : wr.heap.size ≤ w'.heap.size := hk.size
  have hrowk : Row w' 3 1 v l.length (l.map idV) := h.row.keep fun p hp => hk.block p (h.row.lt p hp) (fun e => by
    obtain ⟨d1, d2⟩ := hvd p hp
    rcases e with e | e
    · exact d1 e
    · exact d2 (by rw [hv1, e]; rfl))
  have hFb := hA.fb
  have hkeep : Keeps F w w' := h.keep.trans hk (fun k _ e => by
    rcases e with e | e
    · rw [e]; exact hFb
    · rw [e]; exact hFq)
  obtain ⟨V', hV'⟩ : ∃ V, V = w'.setCell ⟨b, 132 + t, none⟩ (.slice none 0 0) := ⟨_, rfl⟩
  have hV'b : ∀ k, k ≠ b → V'.heap[k]? = w'.heap[k]? := fun k hk => by rw [hV']; exact Below.heap_setCell _ _ _ _ hk
  have hV's : V'.heap.size = w'.heap.size := by rw [hV']; simp [World.setCell]
  have hVV : Keeps (fun k => k = b ∨ v1.ownBlock = some k) V V' := by
    refine ⟨?_, ?_, ?_, by rw [hVs, hV's]; exact hws, fun k hk1 hk2 => ?_⟩
    · rw [hV, hV']; exact hk.os
    · rw [hV, hV']; exact hk.tape
    · rw [hV, hV']; exact hk.output
    · have hkb : k ≠ b := fun e => hk2 (.inl e)
      have hkq : k ≠ q := fun e => hk2 (.inr (by rw [hv1, e]; rfl))
      rw [hV'b k hkb, hVb k hkb]
      exact hk.block k (by rw [← hVs]; exact hk1) (fun e => by rcases e with e | e; exact hkb e; exact hkq e)
  by_cases hb : (u.getD zeroE).ma.testBit t = true
  · rw [if_pos hb] at hheap
    obtain ⟨x, rfl⟩ : ∃ x, u = some x := by
      cases u with
      | none => simp [zeroE] at hb
      | some x => exact ⟨x, rfl⟩
    have hx := atL_some.2 hu
    have hb' : x.ma.testBit t = true := hb
    rw [loseA_yes hx hb']
    have hw'b : w'.heap[b]? = some (.cells (arr.setIfInBounds (4 + t) (.int .i64 ((countL Sk.L t - 1 : Nat) : Int))) 91 (0, 0)) := by
      rw [hheap]
      exact Joins.block_setCell ((Below.heap_setCell _ _ _ _ (by show b ≠ q; exact fun e => hqb e.symm)).trans hown) _
    have hV'own : V'.heap[b]? = some (.cells ((arr.setIfInBounds (132 + t) (.slice none 0 0)).setIfInBounds (4 + t) (.int .i64 ((countL Sk.L t - 1 : Nat) : Int))) 91 (0, 0)) := by
      rw [hV', Joins.block_setCell hw'b, Array.setIfInBounds_comm _ _ (by omega)]
    have hrw : Row wr 86 8 (.slice (some ⟨q, o, none⟩) Sk.L.length c) Sk.L.length (encL Sk.L) := hlist.keep fun p hp => by
      have : q = p := by simpa [Value.ownBlock] using hp
      exact (hVb p (fun e => hqb (this.trans e))).symm
    have h1 := row_cell (k := 7) (o' := some { x with ma := x.ma ^^^ 2 ^ t }) (v := .int .u64 ((x.ma ^^^ 2 ^ t : Nat) : Int)) hrw hu (by omega) rfl
    rw [List.length_set] at h1
    have h2 : Row V' 86 8 v1 Sk.L.length (encL (Sk.L.set i (some { x with ma := x.ma ^^^ 2 ^ t }))) := by
      rw [hv1]
      refine h1.keep fun p hp => ?_
      have hpq : q = p := by simpa [Value.ownBlock] using hp
      have hpb : p ≠ b := fun e => hqb (hpq.trans e)
      rw [hV'b p hpb, hheap, Below.heap_setCell _ _ _ _ (by show p ≠ b; exact hpb)]
      rfl
    have hl := hA.lost hx hb' ht h.add (c := countL Sk.L t - 1) (by have := count_pos hx hb'; omega) hV'own h2 hVV
    rw [Array.setIfInBounds_comm _ _ (by omega), hV'] at hl
    refine ⟨⟨_, v1, v3, bm, n, fr, g, vs, hw'b, by rw [set_at (by omega)]; exact h132, hl, hvd⟩, hrowk, hkeep, h.add⟩
  · rw [if_neg hb] at hheap
    have hls : loseA Sk t i = Sk := by
      cases u with
      | none =>
        refine loseA_none ?_
        unfold atL
        rw [hu]; rfl
      | some x =>
        refine loseA_no (atL_some.2 hu) ?_
        have hb2 : ¬ x.ma.testBit t = true := hb
        simpa using hb2
    rw [hls]
    have hVV0 : Keeps (fun _ => False) V V' := ⟨hVV.os, hVV.tape, hVV.output, hVV.size, fun k hk1 _ => by
      rw [hV, hV']
      unfold World.setCell
      simp only [hheap]⟩
    have hA' := hA.keep hVV0 (fun _ _ h => h)
    rw [hV'] at hA'
    exact ⟨⟨arr, v1, v3, bm, n, fr, g, vs, by rw [hheap]; exact hown, h132, hA', hvd⟩, hrowk, hkeep, h.add⟩
def undoA (S : ArS) (t : Nat) : ArS := loseN t (S.add t) (markA S t)
theorem undo_counts (t : Nat) : ∀ (l : List Nat) (S : ArS), countL (loseN t l S).L t ≤ countL S.L t
  | [], _ => Nat.le_refl _
  | a :: l, S => by
    show countL (loseN t l (loseA S t a)).L t ≤ _
    refine Nat.le_trans (undo_counts t l _) ?_
    unfold loseA
    split
    · exact Nat.le_refl _
    · next x hx =>
      split
      · next hb =>
        have := count_lost hx hb t
        rw [if_pos rfl] at this
        simp only; omega
      · exact Nat.le_refl _
theorem UndoSt.end {b t : Nat} {w : World} {F : Nat → Prop} {Sk : ArS} {lv : Nat} {v : Value} {l : List Nat} {wr : World} (h : UndoSt b t w F Sk lv v l wr) (ht : t < 64) (hlv : lv = liveL Sk.L) :
    wr.cell? ⟨b, 132 + t, none⟩ = some v ∧ (∀ j, wr.frozen? ⟨b, j, none⟩ = false) ∧ b < wr.heap.size ∧ (wr.setCell ⟨b, 132 + t, none⟩ (.slice none 0 0)).cell? ⟨b, 4 + t, none⟩ = some (.int .i64 (countL Sk.L t)) ∧ IsAr b Sk (wr.setCell ⟨b, 132 + t, none⟩ (.slice none 0 0)) F ∧ Keeps F w (wr.setCell ⟨b, 132 + t, none⟩ (.slice none 0 0)) := by
  obtain ⟨arr, v1, v3, bm, n, fr, g, vs, hown, h132, hA, _⟩ := h.core
  refine ⟨(Joins.cell_of_block hown _).trans h132, fun j => Joins.unfrozen_of_block hown j, lt_of_block hown, (hA.cell (4 + t)).trans (hA.c4 t ht), ?_, h.keep.setCell (p := ⟨b, 132 + t, none⟩) (fun _ => hA.fb) _⟩
  subst hlv
  exact ⟨_, _, _, _, _, _, _, _, hA⟩
set_option maxHeartbeats 4000000 in
theorem undo_in (b : Nat) (S : ArS) (F : Nat → Prop) (t : Nat) (ht : t < 64) (w : World) (h : IsAr b S w F) (hr : ∀ i ∈ S.add t, i < S.L.length) :
    Calls Try.prog 69 #[.pointer (some ⟨b, 0, none⟩), .int .i64 t] w (Mut w F (IsAr b (undoA S t)) (.int .i64 ((countL S.L t : Int) - countL (undoA S t).L t))) := by
  have HT := Lib.hid (tenant_in t ht)
  have hle := undo_counts t (S.add t) (markA S t)
  have HUE := Lib.hid (show undoA S t = loseN t (S.add t) (markA S t) from rfl)
  obtain ⟨arr, v1, v3, bm, n, fr, g, vs, hA⟩ := id h
  have hlen := hA.len
  obtain ⟨v, hv⟩ : ∃ v, vs[t]? = some v := ⟨_, List.getElem?_eq_getElem (by omega)⟩
  have c6 := (hA.cell (132 + t)).trans ((hA.c6 t ht).trans hv)
  have c4 := (hA.cell (4 + t)).trans (hA.c4 t ht)
  have hvr := hA.rows t v hv
  have hU0 : UndoSt b t w F (markA S t) (liveL S.L) v (S.add t) w := ⟨⟨arr, v1, v3, bm, n, fr, g, _, hA.own, (hA.c6 t ht).trans hv, hA.marked ht, fun q hq => ⟨fun e => hA.nv hv (by rw [← e]; exact hq), fun e => rows_apart hvr hA.list (by decide) hq e⟩⟩, hvr, Keeps.refl _ _, by rw [markA_add hA.ok ht, if_pos rfl]⟩
  have hcb : countL S.L t ≤ 300000 := by have := countL_le S.L t; have := hA.ok.live; have := hA.ok.room; omega
  obtain ⟨a, cp, hvf, hcl, hcm, _⟩ := hvr.form
  have hll : (S.add t).length ≤ 300000 := by
    have hl : t < S.added.length := by rw [hA.ok.added]; exact ht
    have h1 := hA.ok.few t (S.add t) (by rw [ArS.add, List.getD_eq_getElem?_getD, List.getElem?_eq_getElem hl]; rfl)
    omega
  obtain ⟨l, hl⟩ : ∃ l, l = S.add t := ⟨_, rfl⟩
  rw [← hl] at hvf hU0 hr hll hcl hle
  obtain ⟨N, hN⟩ : ∃ N, N = l.length := ⟨_, rfl⟩
  rw [← hN] at hvf hcl hll
  obtain ⟨cn, hcn⟩ : ∃ cn, cn = countL S.L t := ⟨_, rfl⟩
  rw [← hcn] at c4 hcb ⊢
  have HL := Lib.hid hl
  have HN := Lib.hid hN
  have HCN := Lib.hid hcn
  have HU0 := Lib.hid hU0
  have HR := Lib.hid hr
  have HLE := Lib.hid (show countL (loseN t l (markA S t)).L t ≤ cn by rw [hcn]; exact hle)
  have htI : (t : Int) < 64 := by omega
  have ht0 : (0 : Int) ≤ (t : Int) := by omega
  have HMK := Lib.hid (show (markA S t).L.length = S.L.length ∧ liveL (markA S t).L = liveL S.L from ⟨rfl, rfl⟩)
  rw [hvf] at c6
  have HVF := Lib.hid hvf
  clear h hA hlen hv hvr hU0 hl hN hcn hr hle hvf
  go_enter Try.func69, Try.ntmps69
  go_wp2_with fail
  refine (HT.out _).mono ?_
  rintro e w1 ⟨rfl, rfl⟩
  go_wp2_with fail
  go_loopw [7, 28] (fun _ iv ws => ∃ k : Nat, iv = .int .i64 k ∧ k ≤ N ∧ Aside (UndoSt b t w1 F (loseN t (l.take k) (markA S t)) (liveL S.L) v l ws)) (fun _ iv _ => N - (intOf iv).toNat)
  case atStart => exact ⟨0, rfl, Nat.zero_le _, HU0.out⟩
  case round =>
    obtain ⟨k, rfl, hk, HU⟩ := hrel
    by_cases hkn : k < N
    · obtain ⟨i, hi⟩ : ∃ i, l[k]? = some i := ⟨_, List.getElem?_eq_getElem (by rw [← HN.out]; exact hkn)⟩
      have hrow := HU.out.row
      rw [HVF.out, HN.out] at hrow
      obtain ⟨g0, o0, hga, _⟩ := hrow.cells (by rw [← HN.out]; omega)
      rw [hga] at hrow
      have e0 := idRow_at hrow hi
      have hu1 : decide ((k : Int) < (N : Int)) = true := decide_eq_true (by omega)
      have hu2 : decide (k < N) = true := decide_eq_true hkn
      have hil : i < (loseN t (l.take k) (markA S t)).L.length := by rw [loseN_len, HMK.out.1]; exact HR.out i (List.mem_of_getElem? hi)
      have HLO := Lib.hid (HU.out.lose ht hil)
      have HNX := Lib.hid (show loseN t (l.take (k + 1)) (markA S t) = loseA (loseN t (l.take k) (markA S t)) t i by rw [List.take_add_one, hi]; exact loseN_snoc t _ i _)
      have hkNI : (k : Int) < (N : Int) := by omega
      have HGA := Lib.hid hga
      clear hrow hi hil hga
      rw [HGA.out]
      go_wp2_with fail
      refine HLO.out.mono ?_
      rintro e w2 ⟨rfl, hu⟩
      have HU2 : Aside (UndoSt b t w1 F (loseN t (l.take (k + 1)) (markA S t)) (liveL S.L) v l w2) := by
        show UndoSt b t w1 F _ _ _ _ _
        rw [HNX.out]; exact hu
      clear hu
      go_wp2_with fail
      refine ⟨⟨k + 1, by go_num, hkn, HU2⟩, by simp [intOf]; omega⟩
    · have hkl : l.take k = l := List.take_of_length_le (by rw [← HN.out]; omega)
      rw [hkl] at HU
      have hu1 : decide ((k : Int) < (N : Int)) = false := decide_eq_false (by omega)
      have hu2 : decide (k < N) = false := decide_eq_false hkn
      obtain ⟨x1, x2, x3, x4, x5, x6⟩ := HU.out.end ht (by rw [loseN_live, HMK.out.2])
      obtain ⟨c', hc'⟩ : ∃ c', c' = countL (loseN t l (markA S t)).L t := ⟨_, rfl⟩
      rw [← hc'] at x4
      have hcc : c' ≤ cn := by rw [hc']; exact HLE.out
      have HC' := Lib.hid hc'
      have HX5 := Lib.hid x5
      have HX6 := Lib.hid x6
      rw [HVF.out] at x1
      clear hkl x5 x6 hc'
      go_wp2_with fail
      go_ret
      exact ⟨by rw [HUE.out, ← HL.out, ← HC'.out]; rfl, F, by rw [HUE.out, ← HL.out]; exact HX5.out, fun i hi => .inl hi, HX6.out⟩
end Go.Proofs.Ytdmamecfmfhlmaa
