/-
  What both sides' methods come to, side by side in memory.
-/
import Derived.Test.YtdmamecfmfhlmaaZArenaPlays48
namespace Go.Proofs.Ytdmamecfmfhlmaa
set_option maxRecDepth 100000
open Go.RowKit

theorem ten_lt {t : Int} (h : tenB t = true) : t.toNat < 64 := by
  unfold tenB at h
  simp only [Bool.and_eq_true, decide_eq_true_eq] at h
  omega
theorem swept_count (L : List (Option Ent)) (t : Nat) : countL (sweptL L) t = countL L t := by
  unfold countL sweptL
  rw [List.countP_map]
  refine List.countP_congr fun o _ => ?_
  cases o with
  | none => exact Iff.rfl
  | some x =>
    show mine t (if x.ma = 0 then none else some x) = true ↔ mine t (some x) = true
    by_cases h : x.ma = 0
    · rw [if_pos h]
      simp [mine, h]
    · rw [if_neg h]
theorem swept_live (L : List (Option Ent)) : liveL (sweptL L) ≤ liveL L := by
  unfold liveL sweptL
  rw [List.countP_map]
  refine List.countP_mono_left fun o _ h => ?_
  cases o with
  | none => exact h
  | some x => rfl
theorem swept_ok {S : ArS} (h : ArOk S) : ArOk (sweptA S) :=
  { room := h.room, two := by show 2 ≤ (sweptL S.L).length; rw [sweptL_len]; exact h.two
    nil0 := by show atL (sweptL S.L) 0 = none; rw [swept_here, h.nil0]
    nil1 := by show atL (sweptL S.L) 1 = none; rw [swept_here, h.nil1]
    long := by show (sweptL S.L).length ≤ S.room + 2; rw [sweptL_len]; exact h.long
    live := Nat.le_trans (swept_live S.L) h.live
    uniq := fun i j x y hx hy hk => h.uniq i j x y (swept_at hx) (swept_at hy) hk
    mask := fun i x hx => h.mask i x (swept_at hx)
    quota := h.quota
    quotaR := h.quotaR
    added := h.added
    few := fun t l hl => by show l.length ≤ countL (sweptL S.L) t; rw [swept_count]; exact h.few t l hl }
theorem inv_join {S S' : ArS} {t : Int} {q : Four} {r e : Int} (ok : ArOk S) (hi : Inv S) (h : JoinR S t q r e S') : Inv S' := by
  unfold JoinR at h
  split at h
  · rw [h.2.2]; exact hi
  · next ht =>
    split at h
    · rw [h.2.2]; exact hi
    · next ho =>
      split at h
      · rw [h.2.2]; exact hi
      · exact hi.gave ok (swept_ok ok) (ten_lt (by simpa using ht)) (fun _ => ownAll_parts (by simpa using ho) _ _ _) h
theorem inv_note {S S' : ArS} {t sq rl j va e : Int} (ok : ArOk S) (hi : Inv S) (h : NoteR S t sq rl j va e S') : Inv S' := by
  unfold NoteR at h
  split at h
  · rw [h.2]; exact hi
  · next ht =>
    split at h
    · rw [h.2]; exact hi
    · rcases h with ⟨i, x, _, _, _, rfl⟩ | ⟨_, r, hG⟩
      · exact hi
      · exact hi.gave ok (swept_ok ok) (ten_lt (by simpa using ht)) (fun e => by have e' : (1 : Int) = 0 := e; omega) hG
theorem gave_num {S S' : ArS} {t : Nat} {k : AKey} {lv va r : Int} (ok : ArOk S) (h : Gave S t k lv va r 0 S') : ∃ i : Nat, r = i ∧ i ≤ 1000000 := by
  have hl := ok.long
  have hr := ok.room
  rcases h with ⟨i, x, hx, _, e, _⟩ | ⟨_, _, _, e, _⟩ | ⟨i, x, hx, _, _, e, _⟩ | ⟨_, _, S1, hS1, h⟩
  · have := atL_lt hx.1
    exact ⟨i, e, by omega⟩
  · omega
  · have := atL_lt hx.1
    exact ⟨i, e, by omega⟩
  · have hS : S1.L.length = S.L.length := by
      rw [hS1]
      split
      · exact sweptL_len S.L
      · rfl
    rcases h with ⟨_, _, e, _⟩ | ⟨_, i, hi, e, _⟩
    · omega
    · have := hi.2.2.1
      exact ⟨i, e, by omega⟩
theorem join_num {S S' : ArS} {t : Int} {q : Four} {r : Int} (ok : ArOk S) (h : JoinR S t q r 0 S') : ∃ i : Nat, r = i ∧ i ≤ 1000000 := by
  unfold JoinR at h
  split at h
  · have := h.2.1; omega
  · split at h
    · have := h.2.1; omega
    · split at h
      · have := h.2.1; omega
      · exact gave_num ok h
section
variable {ba br bd B : Nat} {P : Nat → Prop} {X : World} {S S' : ArS} {R R' : RSt} {D : List Nat} {w : World}
theorem Trio.mutA (h : Trio ba br bd B P X S R D w) {f : FuncId} {args : Array Value} {v : Value} (hc : ∀ F, IsAr ba S w F → Calls Try.prog f args w (Mut w F (IsAr ba S') v)) : Calls Try.prog f args w fun e w' => e = .returned v ∧ Trio ba br bd B P X S' R D w' := by
  obtain ⟨F, hF, hs⟩ := h.ar
  exact (hc F hF).mono fun e w' ⟨e1, F', g1, g2, g3⟩ => ⟨e1, hs _ _ _ g1 g2 g3⟩
theorem Trio.mutR (h : Trio ba br bd B P X S R D w) {f : FuncId} {args : Array Value} {v : Value} (hc : ∀ F, IsRe br R w F → Calls Try.prog f args w (Mut w F (IsRe br R') v)) : Calls Try.prog f args w fun e w' => e = .returned v ∧ Trio ba br bd B P X S R' D w' := by
  obtain ⟨F, hF, hs⟩ := h.re
  exact (hc F hF).mono fun e w' ⟨e1, F', g1, g2, g3⟩ => ⟨e1, hs _ _ _ g1 g2 g3⟩
theorem Trio.readA (h : Trio ba br bd B P X S R D w) {f : FuncId} {args : Array Value} {v : Value} (hc : ∀ F, IsAr ba S w F → Calls Try.prog f args w fun e w' => e = .returned v ∧ Below w.heap.size w w') : Calls Try.prog f args w fun e w' => e = .returned v ∧ Trio ba br bd B P X S R D w' := by
  obtain ⟨F, hF, hs⟩ := h.ar
  exact (hc F hF).mono fun e w' ⟨e1, e2⟩ => ⟨e1, h.below e2⟩
theorem Trio.readR (h : Trio ba br bd B P X S R D w) {f : FuncId} {args : Array Value} {v : Value} (hc : ∀ arr v1 vs F, ReAt br R arr v1 vs w F → Calls Try.prog f args w fun e w' => e = .returned v ∧ Below w.heap.size w w') : Calls Try.prog f args w fun e w' => e = .returned v ∧ Trio ba br bd B P X S R D w' := by
  obtain ⟨F, ⟨arr, v1, vs, hF⟩, hs⟩ := h.re
  exact (hc arr v1 vs F hF).mono fun e w' ⟨e1, e2⟩ => ⟨e1, h.below e2⟩
theorem tA_level (h : Trio ba br bd B P X S R D w) (t id : Int) : Calls Try.prog 12 #[.pointer (some ⟨ba, 0, none⟩), .int .i64 t, .int .i64 id] w fun e w' => e = .returned (.tuple #[.int .i64 (levelA S t id).1, .int .i64 (levelA S t id).2]) ∧ Trio ba br bd B P X S R D w' :=
  h.readA fun F hF => (level_any ba S F t id w hF).mono fun e w' ⟨e1, e2⟩ => ⟨e1, by rw [e2]; exact Below.refl _ _⟩
theorem tR_level {S0 : ArS} (h : Trio ba br bd B P X S R D w) (ok : ArOk S0) (hs : Sim S0 R) (t id : Int) : Calls Try.prog 60 #[.pointer (some ⟨br, 0, none⟩), .int .i64 t, .int .i64 id] w fun e w' => e = .returned (.tuple #[.int .i64 (levelA S0 t id).1, .int .i64 (levelA S0 t id).2]) ∧ Trio ba br bd B P X S R D w' :=
  h.readR fun arr v1 vs F hF => by
    rw [← level_same ok hs]
    exact levelR_any br R arr v1 vs F t id w hF
theorem tA_kids (h : Trio ba br bd B P X S R D w) (t id : Int) : Calls Try.prog 58 #[.pointer (some ⟨ba, 0, none⟩), .int .i64 t, .int .i64 id] w fun e w' => e = .returned (.tuple #[fourV (kidsA S t id).1, .int .i64 (kidsA S t id).2]) ∧ Trio ba br bd B P X S R D w' :=
  h.readA fun F hF => kids_any ba S F t id w hF
theorem tR_kids {S0 : ArS} (h : Trio ba br bd B P X S R D w) (ok : ArOk S0) (hs : Sim S0 R) (t id : Int) : Calls Try.prog 59 #[.pointer (some ⟨br, 0, none⟩), .int .i64 t, .int .i64 id] w fun e w' => e = .returned (.tuple #[fourV (kidsA S0 t id).1, .int .i64 (kidsA S0 t id).2]) ∧ Trio ba br bd B P X S R D w' :=
  h.readR fun arr v1 vs F hF => by
    rw [← kids_same ok hs]
    exact kidsR_any br R arr v1 vs F t id w hF
theorem tR_kids2 {S0 : ArS} (h : Trio ba br bd B P X S R D w) (ok : ArOk S0) (hs : Sim S0 R) (t id : Int) : Calls Try.prog 59 #[.pointer (some ⟨br, 0, none⟩), .int .i64 t, .int .i64 id] w fun e w' => e = .returned (.tuple #[fourV (kidsA S0 t id).1, .int .i64 (kidsA S0 t id).2]) ∧ Trio ba br bd B P X S R D w' ∧ Below w.heap.size w w' := by
  obtain ⟨F, ⟨arr, v1, vs, hF⟩, hst⟩ := h.re
  rw [← kids_same ok hs]
  exact (kidsR_any br R arr v1 vs F t id w hF).mono fun e w' ⟨e1, e2⟩ => ⟨e1, h.below e2, e2⟩
theorem kids_i64 {S : ArS} (hg : ∀ i x, atL S.L i = some x → GoodE x) (t id : Int) : I64 (kidsA S t id).1.1 ∧ I64 (kidsA S t id).1.2.1 ∧ I64 (kidsA S t id).1.2.2.1 ∧ I64 (kidsA S t id).1.2.2.2 := by
  have z : I64 0 := by unfold I64; omega
  unfold kidsA
  split
  · cases hx : atL S.L id.toNat with
    | none => exact ⟨z, z, z, z⟩
    | some x =>
      have := (hg _ x hx).1
      exact ⟨this.2.1, this.2.2.1, this.2.2.2.1, this.2.2.2.2⟩
  · exact ⟨z, z, z, z⟩
theorem tA_recall (h : Trio ba br bd B P X S R D w) (t sq rule j : Int) (g1 : I64 sq) (g2 : I64 rule) (g3 : I64 j) : Calls Try.prog 63 #[.pointer (some ⟨ba, 0, none⟩), .int .i64 t, .int .i64 sq, .int .i64 rule, .int .i64 j] w fun e w' => e = .returned (.tuple #[.int .i64 (recallA S t sq rule j).1, .bool (recallA S t sq rule j).2]) ∧ Trio ba br bd B P X S R D w' :=
  h.readA fun F hF => (recall_any ba S F t sq rule j w hF g1 g2 g3).mono fun e w' ⟨e1, e2⟩ => ⟨e1, by rw [e2]; exact Below.refl _ _⟩
theorem tR_recall {S0 : ArS} (h : Trio ba br bd B P X S R D w) (ok : ArOk S0) (hs : Sim S0 R) (hg : ReGood R) (t sq rule j : Int) (g1 : I64 sq) (g2 : I64 rule) (g3 : I64 j) : Calls Try.prog 64 #[.pointer (some ⟨br, 0, none⟩), .int .i64 t, .int .i64 sq, .int .i64 rule, .int .i64 j] w fun e w' => e = .returned (.tuple #[.int .i64 (recallA S0 t sq rule j).1, .bool (recallA S0 t sq rule j).2]) ∧ Trio ba br bd B P X S R D w' :=
  h.readR fun arr v1 vs F hF => by
    rw [← recall_same ok hs]
    rcases ten_cases t with ⟨k, hk, rfl⟩ | ht
    · exact recallR_in br R arr v1 vs F k hk sq rule j w hF hg.good g1 g2 g3
    · have e : recallR R t sq rule j = (0, false) := by unfold recallR; rw [tenB_out ht, if_neg (by decide)]
      rw [e]
      exact recallR_out br R arr v1 vs F t ht sq rule j w hF
theorem tA_count (h : Trio ba br bd B P X S R D w) (t : Int) : Calls Try.prog 75 #[.pointer (some ⟨ba, 0, none⟩), .int .i64 t] w fun e w' => e = .returned (.int .i64 (if tenB t = true then (countL S.L t.toNat : Int) else 0)) ∧ Trio ba br bd B P X S R D w' :=
  h.readA fun F hF => (acount_any ba S F t w hF).mono fun e w' ⟨e1, e2⟩ => ⟨e1, by rw [e2]; exact Below.refl _ _⟩
theorem tR_count {S0 : ArS} (h : Trio ba br bd B P X S R D w) (hs : Sim S0 R) (t : Int) : Calls Try.prog 76 #[.pointer (some ⟨br, 0, none⟩), .int .i64 t] w fun e w' => e = .returned (.int .i64 (if tenB t = true then (countL S0.L t.toNat : Int) else 0)) ∧ Trio ba br bd B P X S R D w' :=
  h.readR fun arr v1 vs F hF => by
    have := countR_any br R arr v1 vs F t w hF
    rw [hs.count] at this
    by_cases ht : tenB t = true
    · rw [if_pos ht] at this ⊢; exact this
    · rw [if_neg ht] at this ⊢; exact this
theorem tA_limit (h : Trio ba br bd B P X S R D w) (t n : Int) : Calls Try.prog 65 #[.pointer (some ⟨ba, 0, none⟩), .int .i64 t, .int .i64 n] w fun e w' => e = .returned (.int .i64 (if limB S.room t n = true then 0 else 3)) ∧ Trio ba br bd B P X (if limB S.room t n = true then limitA S t.toNat n else S) R D w' :=
  h.mutA fun F hF => limit_any ba S F t n w hF
theorem tR_limit (h : Trio ba br bd B P X S R D w) (t n : Int) : Calls Try.prog 66 #[.pointer (some ⟨br, 0, none⟩), .int .i64 t, .int .i64 n] w fun e w' => e = .returned (.int .i64 (if limB R.room t n = true then 0 else 3)) ∧ Trio ba br bd B P X S (if limB R.room t n = true then limitR R t.toNat n else R) D w' :=
  h.mutR fun F hF => limitR_any br R F t n w hF
theorem tA_mark (h : Trio ba br bd B P X S R D w) (t : Int) : Calls Try.prog 67 #[.pointer (some ⟨ba, 0, none⟩), .int .i64 t] w fun e w' => e = .returned (.int .i64 (if tenB t = true then 0 else 11)) ∧ Trio ba br bd B P X (if tenB t = true then markA S t.toNat else S) R D w' :=
  h.mutA fun F hF => mark_any ba S F t w hF
theorem tR_mark (h : Trio ba br bd B P X S R D w) (t : Int) : Calls Try.prog 68 #[.pointer (some ⟨br, 0, none⟩), .int .i64 t] w fun e w' => e = .returned (.int .i64 (if tenB t = true then 0 else 11)) ∧ Trio ba br bd B P X S (if tenB t = true then markR R t.toNat else R) D w' :=
  h.mutR fun F hF => markR_any br R F t w hF
theorem tA_sweep (h : Trio ba br bd B P X S R D w) : Calls Try.prog 73 #[.pointer (some ⟨ba, 0, none⟩)] w fun e w' => e = .returned (.int .i64 (liveL S.L - liveL (sweptL S.L) : Int)) ∧ Trio ba br bd B P X (sweptA S) R D w' :=
  h.mutA fun F hF => sweep_any ba S F w hF
theorem tR_sweep {S0 : ArS} (h : Trio ba br bd B P X S R D w) (hs : Sim S0 R) : Calls Try.prog 74 #[.pointer (some ⟨br, 0, none⟩)] w fun e w' => e = .returned (.int .i64 (liveL S0.L - liveL (sweptL S0.L) : Int)) ∧ Trio ba br bd B P X S (sweepR R) D w' :=
  h.mutR fun F hF => by
    obtain ⟨arr, v1, vs, hA⟩ := hF
    have := sweepR_any br R arr v1 vs F w hA
    rwa [hs.swept.live, hs.live] at this
/-- How many Undo takes. -/
def undoN (S : ArS) (t : Int) : Int := if tenB t = true then (countL S.L t.toNat : Int) - countL (undoA S t.toNat).L t.toNat else 0
theorem tA_undo (h : Trio ba br bd B P X S R D w) (hi : Inv S) (t : Int) : Calls Try.prog 69 #[.pointer (some ⟨ba, 0, none⟩), .int .i64 t] w fun e w' => e = .returned (.int .i64 (undoN S t)) ∧ Trio ba br bd B P X (if tenB t = true then undoA S t.toNat else S) R D w' :=
  h.mutA fun F hF => by
    unfold undoN
    rcases ten_cases t with ⟨k, hk, rfl⟩ | ht
    · rw [tenB_in hk, if_pos rfl, if_pos rfl, Int.toNat_natCast]
      exact undo_in ba S F k hk w hF (hi.add k)
    · rw [tenB_out ht, if_neg (by decide), if_neg (by decide)]
      exact undo_out ba S F t ht w hF
theorem tR_undo {S0 : ArS} (h : Trio ba br bd B P X S R D w) (hs : Sim S0 R) (hg : ReGood R) (t : Int) : Calls Try.prog 70 #[.pointer (some ⟨br, 0, none⟩), .int .i64 t] w fun e w' => e = .returned (.int .i64 (undoN S0 t)) ∧ Trio ba br bd B P X S (if tenB t = true then loseR R t.toNat (undoF R t.toNat) else R) D w' :=
  h.mutR fun F hF => by
    unfold undoN
    rcases ten_cases t with ⟨k, hk, rfl⟩ | ht
    · rw [tenB_in hk, if_pos rfl, if_pos rfl, Int.toNat_natCast]
      obtain ⟨arr, v1, vs, hA⟩ := hF
      have hu := (undo_same hs k).2
      have e : (countL S0.L k : Int) - countL (undoA S0 k).L k = (lostN R.T k (undoF R k) : Nat) := by omega
      rw [e]
      exact undoR_in br R arr v1 vs F k w hA hk (hg.few k) hg.mask
    · rw [tenB_out ht, if_neg (by decide), if_neg (by decide)]
      exact undoR_out br R F t ht w hF
theorem tA_join (h : Trio ba br bd B P X S R D w) (t : Int) (q : Four) (hq : I64 q.1 ∧ I64 q.2.1 ∧ I64 q.2.2.1 ∧ I64 q.2.2.2) : Calls Try.prog 56 #[.pointer (some ⟨ba, 0, none⟩), .int .i64 t, fourV q] w fun e w' => ∃ (r er : Int) (S' : ArS), e = .returned (.tuple #[.int .i64 r, .int .i64 er]) ∧ JoinR S t q r er S' ∧ Trio ba br bd B P X S' R D w' := by
  obtain ⟨F, hF, hs⟩ := h.ar
  exact (join_any ba S F t q w hF hq).mono fun e w' ⟨r, er, S', F', e1, e2, g1, g2, g3⟩ => ⟨r, er, S', e1, e2, hs _ _ _ g1 g2 g3⟩
theorem tR_join (h : Trio ba br bd B P X S R D w) (hg : ReGood R) (t : Int) (q : Four) (hq : I64 q.1 ∧ I64 q.2.1 ∧ I64 q.2.2.1 ∧ I64 q.2.2.2) : Calls Try.prog 57 #[.pointer (some ⟨br, 0, none⟩), .int .i64 t, fourV q] w fun e w' => ∃ (r er : Int) (R' : RSt), e = .returned (.tuple #[.int .i64 r, .int .i64 er]) ∧ JoinRel R t q r er R' ∧ Trio ba br bd B P X S R' D w' := by
  obtain ⟨F, hF, hs⟩ := h.re
  exact (joinR_any br R F t q w hF hg hq).mono fun e w' ⟨r, er, S', F', e1, e2, g1, g2, g3⟩ => ⟨r, er, S', e1, e2, hs _ _ _ g1 g2 g3⟩
theorem tA_note (h : Trio ba br bd B P X S R D w) (t sq rl j va : Int) (h1 : I64 sq) (h2 : I64 rl) (h3 : I64 j) (h4 : I64 va) : Calls Try.prog 61 #[.pointer (some ⟨ba, 0, none⟩), .int .i64 t, .int .i64 sq, .int .i64 rl, .int .i64 j, .int .i64 va] w fun e w' => ∃ (er : Int) (S' : ArS), e = .returned (.int .i64 er) ∧ NoteR S t sq rl j va er S' ∧ Trio ba br bd B P X S' R D w' := by
  obtain ⟨F, hF, hs⟩ := h.ar
  exact (note_any ba S F t sq rl j va w hF h1 h2 h3 h4).mono fun e w' ⟨er, S', F', e1, e2, g1, g2, g3⟩ => ⟨er, S', e1, e2, hs _ _ _ g1 g2 g3⟩
theorem tR_note (h : Trio ba br bd B P X S R D w) (hg : ReGood R) (t sq rl j va : Int) (h1 : I64 sq) (h2 : I64 rl) (h3 : I64 j) : Calls Try.prog 62 #[.pointer (some ⟨br, 0, none⟩), .int .i64 t, .int .i64 sq, .int .i64 rl, .int .i64 j, .int .i64 va] w fun e w' => ∃ (er : Int) (R' : RSt), e = .returned (.int .i64 er) ∧ NoteRel R t sq rl j va er R' ∧ Trio ba br bd B P X S R' D w' := by
  obtain ⟨F, hF, hs⟩ := h.re
  exact (noteR_any br R F t sq rl j va w hF hg h1 h2 h3).mono fun e w' ⟨er, S', F', e1, e2, g1, g2, g3⟩ => ⟨er, S', e1, e2, hs _ _ _ g1 g2 g3⟩
/-- What Clean comes to. -/
def CleanRelA (S : ArS) (t : Int) (rs : List Int) (n : Int) (S' : ArS) : Prop := (∃ k : Nat, k < 64 ∧ t = k ∧ ∃ K, (∀ i, i ∈ K ↔ Reach S.L k rs i) ∧ n = (countL S.L k : Int) - countL (cleanA S k K).L k ∧ S' = cleanA S k K) ∨ ((t < 0 ∨ 64 ≤ t) ∧ n = 0 ∧ S' = S)
def CleanRelR (R : RSt) (t : Int) (rs : List Int) (n : Int) (R' : RSt) : Prop := (∃ k : Nat, k < 64 ∧ t = k ∧ ∃ K, (∀ i, i ∈ K ↔ RReach R.T (okR R k) rs i) ∧ n = (lostN R.T k (cleanF K) : Nat) ∧ R' = loseR R k (cleanF K)) ∨ ((t < 0 ∨ 64 ≤ t) ∧ n = 0 ∧ R' = R)
theorem clean_both {S S' : ArS} {R R' : RSt} {t n n' : Int} {rs : List Int} (ok : ArOk S) (inv : Inv S) (h : Sim S R) (hA : CleanRelA S t rs n S') (hR : CleanRelR R t rs n' R') : n = n' ∧ Sim S' R' ∧ Inv S' := by
  rcases hA with ⟨k, hk, rfl, K, hK, rfl, rfl⟩ | ⟨ht, rfl, rfl⟩
  · rcases hR with ⟨k', hk', e, K', hK', rfl, rfl⟩ | ⟨ht, rfl, rfl⟩
    · obtain rfl : k = k' := by omega
      obtain ⟨h1, h2⟩ := clean_same ok inv h hK hK'
      exact ⟨by omega, h1, inv.cleaned ok hk hK⟩
    · omega
  · rcases hR with ⟨k', hk', e, K', hK', rfl, rfl⟩ | ⟨ht', rfl, rfl⟩
    · omega
    · exact ⟨rfl, h, inv⟩
theorem tA_clean (h : Trio ba br bd B P X S R D w) (t : Int) (rs : List Int) (A : Option Addr) (n cp : Nat) (hs : Src w 1 A n (rs.map intV)) (h64 : ∀ r ∈ rs, I64 r) (hn : n ≤ 1000000) : Calls Try.prog 71 #[.pointer (some ⟨ba, 0, none⟩), .int .i64 t, .slice A n cp] w fun e w' => ∃ (m : Int) (S' : ArS), e = .returned (.int .i64 m) ∧ CleanRelA S t rs m S' ∧ Trio ba br bd B P X S' R D w' := by
  obtain ⟨F, hF, hst⟩ := h.ar
  rcases ten_cases t with ⟨k, hk, rfl⟩ | ht
  · exact (clean_in ba S F k hk rs A n cp w hF hs h64 hn).mono fun e w' ⟨K, hK, e1, F', g1, g2, g3⟩ => ⟨_, _, e1, .inl ⟨k, hk, rfl, K, hK, rfl, rfl⟩, hst _ _ _ g1 g2 g3⟩
  · exact (clean_out ba S F t ht A n cp w hF).mono fun e w' ⟨e1, F', g1, g2, g3⟩ => ⟨_, _, e1, .inr ⟨ht, rfl, rfl⟩, hst _ _ _ g1 g2 g3⟩
theorem tR_clean {S0 : ArS} (h : Trio ba br bd B P X S R D w) (ok : ArOk S0) (inv : Inv S0) (hsim : Sim S0 R) (hg : ReGood R) (t : Int) (rs : List Int) (A : Option Addr) (n cp : Nat) (hs : Src w 1 A n (rs.map intV)) (h64 : ∀ r ∈ rs, I64 r) (hn : n ≤ 1000000) : Calls Try.prog 72 #[.pointer (some ⟨br, 0, none⟩), .int .i64 t, .slice A n cp] w fun e w' => ∃ (m : Int) (R' : RSt), e = .returned (.int .i64 m) ∧ CleanRelR R t rs m R' ∧ Trio ba br bd B P X S R' D w' := by
  obtain ⟨F, hF, hst⟩ := h.re
  rcases ten_cases t with ⟨k, hk, rfl⟩ | ht
  · obtain ⟨arr, v1, vs, hA⟩ := hF
    exact (cleanR_in br R arr v1 vs F k rs A n cp S0.L.length w hA hk hg (ids_of ok hsim) hs h64 hn (fun i hi => ref_range ok inv hsim i hi)).mono fun e w' ⟨K, hK, e1, F', g1, g2, g3⟩ => ⟨_, _, e1, .inl ⟨k, hk, rfl, K, hK, rfl, rfl⟩, hst _ _ _ g1 g2 g3⟩
  · exact (cleanR_out br R F t ht A n cp w hF).mono fun e w' ⟨e1, F', g1, g2, g3⟩ => ⟨_, _, e1, .inr ⟨ht, rfl, rfl⟩, hst _ _ _ g1 g2 g3⟩
end
end Go.Proofs.Ytdmamecfmfhlmaa
