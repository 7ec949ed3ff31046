/-
  leap's work, in trees: what may be asked for, and what a step comes to; plain; arena.New: an arena of its own; A new arena: its plain form, and its memory; A new arena, and the law's made; One tenant alone in a new arena: where all that it asks for has room, nothing fails: plain.
-/
import Derived.Test.YtabhpbkkjijfjaaZLeapStepsQNotes
import Derived.Test.YtabhpbkkjijfjaaZLeapSteps28
import Derived.Test.YtabhpbkkjijfjaaZLeapSteps1
import Derived.Test.YtabhpbkkjijfjaaZLeapSteps11
import Derived.Test.YtabhpbkkjijfjaaZLeapSteps26
namespace Go.Proofs.Ytabhpbkkjijfjaa
set_option maxRecDepth 100000

/-- What a piece of a leaper's work comes to. -/
def LRes (U : Th → Prop) (t : Nat) (S S' : ArS) (bad bad' : Int) : Prop := (∃ k, Res U t S S' bad bad' k) ∧ (NoteI S.L → NoteI S'.L)
section
variable {U : Th → Prop} {t : Nat} {S S1 S2 : ArS} {b0 b1 b2 : Int}
theorem LRes.refl (wf : Wf S.L) : LRes U t S S b0 b0 := ⟨⟨0, Res.refl wf⟩, fun h => h⟩
theorem LRes.trans (h : LRes U t S S1 b0 b1) (g : LRes U t S1 S2 b1 b2) : LRes U t S S2 b0 b2 := by
  obtain ⟨⟨k, h1⟩, h2⟩ := h
  obtain ⟨⟨l, g1⟩, g2⟩ := g
  exact ⟨⟨k + l, h1.trans g1⟩, fun e => g2 (h2 e)⟩
theorem LRes.wf (h : LRes U t S S1 b0 b1) : Wf S1.L := by obtain ⟨⟨k, h1⟩, _⟩ := h; exact h1.wf
theorem LRes.grew (h : LRes U t S S1 b0 b1) : GrewU U t S S1 := by obtain ⟨⟨k, h1⟩, _⟩ := h; exact h1.grew
theorem LRes.ext (h : LRes U t S S1 b0 b1) (s : Nat) : ExtT s S.L S1.L := h.grew.ext s
theorem LRes.nil (h : LRes U t S S1 b0 b1) (e : b1 = 0) : b0 = 0 := by obtain ⟨⟨k, h1⟩, _⟩ := h; exact h1.nil e
theorem LRes.stay (h : LRes U t S S1 b0 b1) (e : b0 ≠ 0) : b1 = b0 ∧ S1 = S := by obtain ⟨⟨k, h1⟩, _⟩ := h; exact ⟨h1.stay e, h1.idle e⟩
theorem LRes.notes (h : LRes U t S S1 b0 b1) (hn : NoteI S.L) : NoteI S1.L := h.2 hn
theorem LRes.errs (h : LRes U t S S1 b0 b1) (e : b0 = 0) : b1 = 0 ∨ b1 = 5 ∨ b1 = 9 := by obtain ⟨⟨k, h1⟩, _⟩ := h; exact h1.errs e
theorem LRes.lacks (h : LRes U t S S1 b0 b1) (e : b0 = 0) (h9 : b1 = 9) : Lacks U t S1 := by obtain ⟨⟨k, h1⟩, _⟩ := h; exact h1.lacks e h9
theorem LRes.full (h : LRes U t S S1 b0 b1) (e : b0 = 0) (h5 : b1 = 5) : FullA S1 := by obtain ⟨⟨k, h1⟩, _⟩ := h; exact h1.full e h5
end
theorem JoinR.notes {S S' : ArS} {t : Nat} {q : Four} {r e : Int} (h : JoinR S t q r e S') (wf : Wf S.L) (hn : NoteI S.L) : NoteI S'.L := by
  unfold JoinR at h
  split at h
  · rw [h.2.2]; exact hn
  · split at h
    · rw [h.2.2]; exact hn
    · split at h
      · rw [h.2.2]; exact hn
      · exact Gave.notes h wf hn fun e => absurd (show (0 : Int) = 1 from e) (by decide)
/-- A join of a leaper. -/
theorem join_res {U : Th → Prop} {S S' : ArS} {t n : Nat} {q : Four} {bad bad' r : Int} {Ta Tb Tc Td : Tree} (ok : ArOk S) (wf : Wf S.L) (ht : t < 64) (hn : n < 44) (h1 : bad ≠ 0 → r = 0 ∧ bad' = bad ∧ S' = S) (h2 : bad = 0 → JoinR S t q r bad' S')
    (hd : bad = 0 → Den S.L t n Ta q.1 ∧ Den S.L t n Tb q.2.1 ∧ Den S.L t n Tc q.2.2.1 ∧ Den S.L t n Td q.2.2.2) (hU : U (.sq (.node Ta Tb Tc Td))) :
    LRes U t S S' bad bad' ∧ (bad' = 0 → Den S'.L t (n + 1) (.node Ta Tb Tc Td) r) ∧ (bad' ≠ 0 → r = 0) := by
  by_cases hb : bad = 0
  · obtain ⟨da, db, dc, dd⟩ := hd hb
    have hj := h2 hb
    obtain ⟨j1, j2, j3, _⟩ := join_tree ok wf ht hn hj da db dc dd hU
    rw [hb]
    exact ⟨⟨⟨1, j1⟩, fun e => hj.notes wf e⟩, j2, j3⟩
  · obtain ⟨e1, e2, e3⟩ := h1 hb
    subst e1 e2 e3
    exact ⟨LRes.refl wf, fun e => absurd e hb, fun _ => rfl⟩
/-- The quarters of a square. -/
theorem kids_den {S : ArS} {t n : Nat} {T : Tree} {id : Int} (ht : t < 64) (h : Den S.L t (n + 1) T id) : (kidsA S t id).2 = 0 ∧ Den S.L t n (kidN 0 T) (kidsA S t id).1.1 ∧ Den S.L t n (kidN 1 T) (kidsA S t id).1.2.1 ∧ Den S.L t n (kidN 2 T) (kidsA S t id).1.2.2.1 ∧ Den S.L t n (kidN 3 T) (kidsA S t id).1.2.2.2 := by
  match T, h with
  | .leaf _, h => exact h.elim
  | .node a b c d, h =>
    have ho := h.owns
    obtain ⟨h2, x, h3, h4, h5, h6, ha, hb, hc, hd⟩ := h
    obtain ⟨i, rfl⟩ := Int.eq_ofNat_of_zero_le (show 0 ≤ id by omega)
    rw [Int.toNat_natCast] at h3
    rw [kidsA_yes ht ho (by omega) h3]
    exact ⟨rfl, ha, hb, hc, hd⟩
/-- All that a square's middle asks for. -/
def Dem (b l : Int) : Nat → Nat → Tree → Th → Prop
  | 0, j, T, th => th = .sq (smallT b l T) ∨ th = .note T (codeR b l) j
  | m + 1, j, T, th => th = .note T (codeR b l) j ∨ th = .sq (leapT b l (m + 1) j T) ∨
      (∃ y x, y < 3 ∧ x < 3 ∧ (th = .sq (sqG (gridT T) y x) ∨ (if j = m + 1 then Dem b l m (j - 1) (sqG (gridT T) y x) th else th = .sq (midT (sqG (gridT T) y x))))) ∨
      (∃ y x, y < 2 ∧ x < 2 ∧ (th = .sq (sqG (fun y x => if j = m + 1 then leapT b l m (j - 1) (sqG (gridT T) y x) else midT (sqG (gridT T) y x)) y x) ∨
        Dem b l m (if j = m + 1 then j - 1 else j) (sqG (fun y x => if j = m + 1 then leapT b l m (j - 1) (sqG (gridT T) y x) else midT (sqG (gridT T) y x)) y x) th))
/-- What was noted is the square's middle. -/
theorem recall_den {S : ArS} {t n j : Nat} {T : Tree} {id B Lv v : Int} (wf : Wf S.L) (hn : NoteI S.L) (b0 : 0 ≤ B) (b1 : B < 512) (l0 : 0 ≤ Lv) (l1 : Lv < 512) (hj : j ≤ n) (hd : Den S.L t (n + 2) T id) (h : recallA S t id (codeR B Lv) j = (v, true)) : Den S.L t (n + 1) (leapT B Lv n j T) v := by
  unfold recallA at h
  split at h
  · cases hf : findK S.L (1, id, codeR B Lv, (j : Int), 0) with
    | none => rw [hf] at h; cases h
    | some i =>
      rw [hf] at h
      simp only at h
      obtain ⟨x, hx, hk⟩ := findK_some hf
      rw [hx] at h
      simp only [Int.toNat_natCast] at h
      split at h
      · next hb =>
        have hv : x.va = v := congrArg Prod.fst h
        unfold Ent.key at hk
        simp only [Prod.mk.injEq] at hk
        obtain ⟨k0, k1, k2, k3, _⟩ := hk
        have ne := hn i x hx k0
        have := ne.ok B Lv j n T b0 b1 l0 l1 k2 k3 hj (by rw [k1]; exact hd.x)
        rw [← hv]
        exact this.den wf (ne.own t hb).2
      · cases h
  · cases h
/-- A note that is written. -/
theorem note_res {U : Th → Prop} {S S' : ArS} {t n j : Nat} {T : Tree} {id B Lv va e : Int} (ok : ArOk S) (wf : Wf S.L) (hn : NoteI S.L) (ht : t < 64) (b0 : 0 ≤ B) (b1 : B < 512) (l0 : 0 ≤ Lv) (l1 : Lv < 512) (hj : j ≤ n) (hd : Den S.L t (n + 2) T id) (hv : Den S.L t (n + 1) (leapT B Lv n j T) va) (hU : U (.note T (codeR B Lv) j)) (h : NoteR S t id (codeR B Lv) j va e S') : LRes U t S S' 0 e := by
  unfold NoteR at h
  rw [if_neg (by rw [tenB_in ht]; decide), Int.toNat_natCast, if_neg (by rw [hd.owns, hv.owns]; decide)] at h
  have hall : ∀ i x, HasKey S.L (1, id, codeR B Lv, (j : Int), 0) i x → x.va = va := fun i x hk => by
    have hkk := hk.2
    unfold Ent.key at hkk
    simp only [Prod.mk.injEq] at hkk
    obtain ⟨k0, k1, k2, k3, _⟩ := hkk
    have := (hn i x hk.1 k0).ok B Lv j n T b0 b1 l0 l1 k2 k3 hj (by rw [k1]; exact hd.x)
    exact DenX.inj ok this hv.x
  rcases h with ⟨i, x, hk, hne, _⟩ | ⟨_, r, hg⟩
  · exact absurd (hall i x hk) hne
  · have hnn : NewNote S.L t (1, id, codeR B Lv, (j : Int), 0) va := by
      refine ⟨⟨hd.owns, hv.owns⟩, ⟨_, _, hd.x⟩, ⟨_, _, hv.x⟩, fun B' Lv' j' n' T' c0 c1 c2 c3 hb hjj hj' hd' => ?_⟩
      have hb' : codeR B Lv = codeR B' Lv' := hb
      unfold codeR at hb'
      obtain rfl : B = B' := by omega
      obtain rfl : Lv = Lv' := by omega
      have hj2 : (j : Int) = (j' : Int) := hjj
      obtain rfl : j = j' := by omega
      obtain ⟨e1, rfl⟩ := hd.x.same hd'
      obtain rfl : n = n' := by omega
      exact hv.x
    have hkt : ∃ th, U th ∧ KeyT S.L t (1, id, codeR B Lv, (j : Int), 0) th := ⟨_, hU, n + 2, hd, rfl⟩
    have hgrew : GrewU U t S S' := GrewU.refl.step hg hkt (fun e => absurd (show (1 : Int) = 0 from e) (by decide))
    have herr : e = 0 ∨ e = 5 ∨ e = 9 := by
      rcases hg.done with ⟨h1, _⟩ | ⟨_, ⟨h1, _⟩ | ⟨h1, _⟩⟩
      · exact .inl h1
      · exact .inr (.inr h1)
      · exact .inr (.inl h1)
    refine ⟨⟨S.room + 1, ⟨hgrew, hg.wf_note wf (fun e => absurd (show (1 : Int) = 0 from e) (by decide)), fun c hc _ => ?_, fun h => absurd rfl h, fun _ => herr, fun h => absurd rfl h, fun _ h9 => hg.lacks hkt h9, fun _ h5 => hg.full h5⟩⟩, fun _ => hg.notes wf hn fun _ => ⟨hnn, hall⟩⟩
    have := hc.1
    omega
end Go.Proofs.Ytabhpbkkjijfjaa
namespace Go.Proofs.Ytabhpbkkjijfjaa
set_option maxRecDepth 100000
open Go.RowKit

def twoEntries : Array Value := #[.int .i64 0, .int .i64 0, .int .i64 0, .int .i64 0, .int .i64 0, .int .i64 0, .int .i64 0, .int .u64 0, .int .i64 0, .int .i64 0, .int .i64 0, .int .i64 0, .int .i64 0, .int .i64 0, .int .i64 0, .int .u64 0]
theorem make_two (W : World) : (Instr.makeSlice 57 (.int .i64 2) (.int .i64 2)).run Try.prog W = .ok (.slice (some ⟨W.heap.size, 0, none⟩) 2 2) (W.alloc (.cells twoEntries 95)) := by kernel_rfl
theorem make_index (W : World) : (Instr.makeMap 58 none).run Try.prog W = .ok (.map (some W.heap.size)) (W.alloc (.map #[] 0)) := rfl
/-- What a new arena holds ahead of its quotas. -/
noncomputable def arena0 (n : Int) (b : Nat) : Array Value := ((Try.zeroCells64.setIfInBounds 0 (.int .i64 n)).setIfInBounds 1 (.slice (some ⟨b, 0, none⟩) 2 2)).setIfInBounds 2 (.map (some (b + 1)))
theorem arena0_size (n : Int) (b : Nat) : (arena0 n b).size = 197 := by
  rw [arena0, Array.size_setIfInBounds, Array.size_setIfInBounds, Array.size_setIfInBounds]; rfl
set_option maxHeartbeats 2000000 in
theorem arenaNew_any (n : Nat) (w : World) (hn : n ≤ 200000) :
    Calls Try.prog 11 #[.int .i64 n] w fun e w' => ∃ arr : Array Value, e = .returned (.tuple #[.pointer (some ⟨w.heap.size + 2, 0, none⟩), .int .i64 0]) ∧ Below w.heap.size w w' ∧ w'.heap[w.heap.size]? = some (.cells twoEntries 95 (0, 0)) ∧ w'.heap[w.heap.size + 1]? = some (.map #[] 0) ∧ w'.heap[w.heap.size + 2]? = some (.cells arr 64 (0, 0)) ∧ arr.size = 197 ∧ ∀ j, arr[j]? = if 68 ≤ j ∧ j < 132 then some (.int .i64 n) else (arena0 n w.heap.size)[j]? := by
  have h1 : (0 : Int) ≤ (n : Int) := by omega
  have h2 : (n : Int) ≤ 200000 := by omega
  have h3 : decide ((n : Int) < 0) = false := by simp
  have h4 : decide ((200000 : Int) < (n : Int)) = false := by simp; omega
  have hmk := make_two
  have hmm := make_index
  have HZ : Aside ((arena0 n w.heap.size).size = 197) := arena0_size n w.heap.size
  go_enter Try.func11, Try.ntmps11
  go_wp2_with fail
  rw [show ((Try.zeroCells64.setIfInBounds 0 (Value.int .i64 n)).setIfInBounds 1 (.slice (some ⟨w.heap.size, 0, none⟩) 2 2)).setIfInBounds 2 (.map (some (w.heap.size + 1))) = arena0 n w.heap.size from rfl]
  obtain ⟨Z, hZ⟩ : ∃ Z, Z = arena0 n w.heap.size := ⟨_, rfl⟩
  rw [← hZ] at HZ ⊢
  have HZ2 := Lib.hid hZ
  clear hZ
  go_loopw [17] (fun i wr => ∃ (k : Nat) (arr : Array Value), i = .int .i64 k ∧ k ≤ 64 ∧ arr.size = 197 ∧ Aside (∀ j, arr[j]? = if 68 ≤ j ∧ j < 68 + k then some (Value.int .i64 n) else Z[j]?) ∧ Below w.heap.size w wr ∧ w.heap.size + 2 < wr.heap.size ∧ wr.heap[w.heap.size]? = some (.cells twoEntries 95 (0, 0)) ∧ wr.heap[w.heap.size + 1]? = some (.map #[] 0) ∧ wr.heap[w.heap.size + 1 + 1]? = some (.cells arr 64 (0, 0))) (fun i _ => 64 - (intOf i).toNat)
  case atStart =>
    refine ⟨0, Z, rfl, Nat.zero_le _, HZ.out, ?_, (((Below.refl _ _).alloc (Nat.le_refl _) _).alloc (by simp) _).alloc (by simp; omega) _, by simp, ?_, ?_, blk_last _ _ (by simp)⟩
    · show ∀ j, _
      intro j
      rw [if_neg (by omega)]
    · exact blk_alloc (blk_alloc (blk_last _ _ rfl) _) _
    · exact blk_alloc (blk_last _ _ (by simp)) _
  case round =>
    obtain ⟨k, arr, rfl, hk, hsz, HA, hB, hws, hb0, hb1, hb2⟩ := hrel
    have hu := Joins.unfrozen_of_block hb2 (68 + k)
    by_cases hlt : k < 64
    · have w1 : (k : Int) < 64 := by omega
      obtain ⟨x, hx⟩ : ∃ x, arr[68 + k]? = some x := ⟨arr[68 + k]'(by omega), by simp⟩
      have hc : wr.cell? ⟨w.heap.size + 1 + 1, 68 + k, none⟩ = some x := by rw [Joins.cell_of_block hb2, hx]
      clear hx
      go_wp2_with fail
      refine ⟨⟨k + 1, arr.setIfInBounds (68 + k) (.int .i64 n), by go_num, by omega, by rw [Array.size_setIfInBounds, hsz], ?_, hB.setCell (by simp; omega) _, by simpa using hws, blk_set hb0 (by simp; omega) _, blk_set hb1 (by simp) _, Joins.block_setCell hb2 _⟩, by simp [intOf]; omega⟩
      show ∀ j, _
      intro j
      rw [Array.getElem?_setIfInBounds]
      have h := HA.out j
      by_cases hj : 68 + k = j
      · rw [if_pos hj, if_pos (by omega), if_pos (by omega)]
      · rw [if_neg hj, h]
        by_cases h2 : 68 ≤ j ∧ j < 68 + k
        · rw [if_pos h2, if_pos (by omega)]
        · rw [if_neg h2, if_neg (by omega)]
    · obtain rfl : k = 64 := by omega
      have HF := Lib.hid HA.out
      clear hk hlt
      go_wp2_with fail
      refine bodyPost_ret (v := .tuple #[.pointer (some ⟨w.heap.size + 1 + 1, 0, none⟩), .int .i64 0]) (by simp [results, Try.results11, go_sem]) rfl ⟨arr, rfl, hB, hb0, hb1, hb2, hsz, fun j => by rw [HF.out, HZ2.out]⟩
end Go.Proofs.Ytabhpbkkjijfjaa
namespace Go.Proofs.Ytabhpbkkjijfjaa
set_option maxRecDepth 100000
open Go.RowKit

def newS (n : Nat) : ArS := ⟨n, [none, none], List.replicate 64 (n : Int), List.replicate 64 []⟩
theorem newS_at (n i : Nat) : atL (newS n).L i = none := by
  match i with
  | 0 => rfl
  | 1 => rfl
  | i + 2 => exact atL_out (by show 2 ≤ i + 2; omega)
theorem newS_ok {n : Nat} (hn : n ≤ 200000) : ArOk (newS n) :=
  { room := hn, two := Nat.le_refl _, nil0 := rfl, nil1 := rfl, long := by show 2 ≤ n + 2; omega, live := Nat.zero_le _
    uniq := fun i j x y hx => by rw [newS_at] at hx; cases hx
    mask := fun i x hx => by rw [newS_at] at hx; cases hx
    quota := by simp [newS]
    quotaR := fun q hq => by
      have := List.eq_of_mem_replicate hq
      omega
    added := by simp [newS]
    few := fun t l hl => by
      have := List.eq_of_mem_replicate (List.mem_of_getElem? hl)
      rw [this]; exact Nat.zero_le _ }
theorem newS_live (n : Nat) : liveL (newS n).L = 0 := rfl
theorem newS_quo (n : Nat) {t : Nat} (ht : t < 64) : (newS n).quo t = n := by
  unfold ArS.quo newS
  simp only
  rw [List.getD_eq_getElem?_getD, List.getElem?_replicate, if_pos ht]; rfl
theorem newS_add (n t : Nat) : (newS n).add t = [] := by
  unfold ArS.add newS
  simp only
  rw [List.getD_eq_getElem?_getD, List.getElem?_replicate]
  split <;> rfl
theorem newS_count (n t : Nat) : countL (newS n).L t = 0 := rfl
theorem arena0_at (n : Int) (b j : Nat) : (arena0 n b)[j]? = if j = 0 then some (.int .i64 n) else if j = 1 then some (.slice (some ⟨b, 0, none⟩) 2 2) else if j = 2 then some (.map (some (b + 1))) else Try.zeroCells64[j]? := by
  have hz : Try.zeroCells64.size = 197 := by kernel_rfl
  unfold arena0
  rw [Array.getElem?_setIfInBounds, Array.getElem?_setIfInBounds, Array.getElem?_setIfInBounds]
  simp only [Array.size_setIfInBounds, hz]
  by_cases h0 : j = 0
  · subst h0; rfl
  · by_cases h1 : j = 1
    · subst h1; rfl
    · by_cases h2 : j = 2
      · subst h2; rfl
      · rw [if_neg (by omega), if_neg (by omega), if_neg (by omega), if_neg h0, if_neg h1, if_neg h2]
theorem zeroA_eq : Try.zeroCells64.toList = [.int .i64 0, .slice none 0 0, .map none, .slice none 0 0] ++ (List.replicate 128 (.int .i64 0) ++ (List.replicate 64 (.slice none 0 0) ++ [.int .i64 0])) := by kernel_rfl
theorem zeroA_slice {j : Nat} (hj : j = 3 ∨ 132 ≤ j ∧ j < 196) : Try.zeroCells64[j]? = some (.slice none 0 0) := by
  rw [← Array.getElem?_toList, zeroA_eq]
  rcases hj with rfl | ⟨h1, h2⟩
  · rfl
  · rw [List.getElem?_append_right (by simp; omega), List.getElem?_append_right (by simp; omega), List.getElem?_append_left (by simp; omega), List.getElem?_replicate, if_pos (by simp; omega)]
theorem zeroA_int {j : Nat} (hj : (4 ≤ j ∧ j < 132) ∨ j = 196) : Try.zeroCells64[j]? = some (.int .i64 0) := by
  rw [← Array.getElem?_toList, zeroA_eq]
  rcases hj with ⟨h1, h2⟩ | rfl
  · rw [List.getElem?_append_right (by simp; omega), List.getElem?_append_left (by simp; omega), List.getElem?_replicate, if_pos (by simp; omega)]
  · rfl
theorem new_isAr {n : Nat} (hn : n ≤ 200000) {w : World} {b : Nat} {arr : Array Value} (h0 : w.heap[b]? = some (.cells twoEntries 95 (0, 0))) (h1 : w.heap[b + 1]? = some (.map #[] 0)) (h2 : w.heap[b + 2]? = some (.cells arr 64 (0, 0))) (hs : arr.size = 197)
    (ha : ∀ j, arr[j]? = if 68 ≤ j ∧ j < 132 then some (.int .i64 n) else (arena0 n b)[j]?) : IsAr (b + 2) (newS n) w (fun i => b ≤ i ∧ i < b + 3) := by
  have hvs : ∀ (t : Nat) (v : Value), (List.replicate 64 (Value.slice none 0 0))[t]? = some v → v = .slice none 0 0 := fun t v hv => List.eq_of_mem_replicate (List.mem_of_getElem? hv)
  refine ⟨arr, .slice (some ⟨b, 0, none⟩) 2 2, .slice none 0 0, b + 1, 0, [], fun _ => none, List.replicate 64 (.slice none 0 0), ?_⟩
  exact {
    ok := newS_ok hn
    good := fun i x hx => by rw [newS_at] at hx; cases hx
    own := h2
    size := hs
    c0 := by rw [ha, if_neg (by omega), arena0_at, if_pos rfl]; rfl
    c1 := by rw [ha, if_neg (by omega), arena0_at, if_neg (by omega), if_pos rfl]
    c2 := by rw [ha, if_neg (by omega), arena0_at, if_neg (by omega), if_neg (by omega), if_pos rfl]
    c3 := by rw [ha, if_neg (by omega), arena0_at, if_neg (by omega), if_neg (by omega), if_neg (by omega), zeroA_slice (by omega)]
    c4 := fun t ht => by rw [ha, if_neg (by omega), arena0_at, if_neg (by omega), if_neg (by omega), if_neg (by omega), zeroA_int (by omega), newS_count]; rfl
    c5 := fun t ht => by rw [ha, if_pos (by omega), newS_quo n ht]
    c6 := fun t ht => by rw [ha, if_neg (by omega), arena0_at, if_neg (by omega), if_neg (by omega), if_neg (by omega), zeroA_slice (by omega), List.getElem?_replicate, if_pos ht]
    c7 := by rw [ha, if_neg (by omega), arena0_at, if_neg (by omega), if_neg (by omega), if_neg (by omega), zeroA_int (by omega), newS_live]; rfl
    list := ⟨rfl, .inr ⟨b, 0, 2, twoEntries, rfl, h0, by show 2 ≤ 2; omega, by simp [maxLen], by simp [twoEntries], rfl⟩⟩
    map := ⟨#[], 0, h1, by simp, by simp [MapKept.Stamped], fun e he => by simp at he, fun a v hv => by cases hv⟩
    keys := fun k i => by
      constructor
      · intro h; cases h
      · rintro ⟨x, hx, _⟩; rw [newS_at] at hx; cases hx
    free := Row.nil _ _ _
    heap := fun j x y h0 h1 => by simp at h1
    nodup := List.nodup_nil
    frees := fun i => by
      constructor
      · intro h; cases h
      · rintro ⟨a1, a2, _⟩
        have : i < 2 := a2
        omega
    len := by simp
    rows := fun t v hv => by
      rw [hvs t v hv, newS_add]; exact Row.nil _ _ _
    fb := ⟨by omega, by omega⟩
    fm := ⟨by omega, by omega⟩
    f1 := fun q hq => by
      have : b = q := by simpa [Value.ownBlock] using hq
      omega
    f3 := fun q hq => by cases hq
    fv := fun t v q hv hq => by rw [hvs t v hv] at hq; cases hq
    lt := fun i hi => by have := lt_of_block h2; omega
    apart3 := fun t v q hv hq => by rw [hvs t v hv] at hq; cases hq
    apart := fun t s v u q _ hv _ hq => by rw [hvs t v hv] at hq; cases hq }
end Go.Proofs.Ytabhpbkkjijfjaa
namespace Go.Proofs.Ytabhpbkkjijfjaa
set_option maxRecDepth 100000
open Go.RowKit

theorem newS_wf (n : Nat) : Wf (newS n).L := fun i x hx => by rw [newS_at] at hx; cases hx
theorem newS_bud {n t c : Nat} (hn : 44 + c ≤ n) (ht : t < 64) : Bud t (newS n) c := by
  have h := miss_le (newS n).L t
  refine ⟨?_, ?_⟩
  · rw [newS_live]; show 0 + miss (newS n).L t + c ≤ n; omega
  · rw [newS_live, newS_quo n ht]; omega
/-- What the law's made comes to, where the list is one: an arena with the square of the cells, tenant 3's. -/
def MadeOk (U : Th → Prop) (w : World) (zs : CellL) (e : Ending) (w' : World) : Prop :=
  ∃ (b : Nat) (lev : Nat) (r : Int) (S : ArS) (F : Nat → Prop), e = .returned (.tuple #[.pointer (some ⟨b, 0, none⟩), .int .i64 r, .int .i64 0, .bool true]) ∧ Least (tidyF zs).1 lev ∧ I64 r ∧ IsAr b S w' F ∧ (∀ i, F i → w.heap.size ≤ i) ∧ Below w.heap.size w w' ∧ GrewU U 3 (newS 200000) S ∧ Wf S.L ∧
    Den S.L 3 lev (buildT lev (-((2 ^ (lev - 1) : Nat) : Int)) (-((2 ^ (lev - 1) : Nat) : Int)) (tidyF zs).1) r ∧ liveL S.L + miss S.L 3 ≤ 44 + lev * (tidyF zs).1.length
set_option maxHeartbeats 2000000 in
theorem made_ok {U : Th → Prop} (zs : CellL) (a : Option Addr) (c : Nat) (w : World) (hs : Sl w 2 16 a zs.length c (zs.flatMap encCell)) (hok : (tidyF zs).2 = 0) (hlen : zs.length ≤ 300) (hU : ∀ lev, Least (tidyF zs).1 lev → ∀ T', Sub T' (buildT lev (-((2 ^ (lev - 1) : Nat) : Int)) (-((2 ^ (lev - 1) : Nat) : Int)) (tidyF zs).1) → U (.sq T')) :
    Calls Try.prog 5 #[.slice a zs.length c] w (MadeOk U w zs) := by
  have HN := Lib.hid (arenaNew_any 200000 w (by omega))
  rw [show ((200000 : Nat) : Int) = (200000 : Int) from rfl] at HN
  have HS := Lib.hid hs
  have HOK := Lib.hid hok
  have HU := Lib.hid hU
  obtain ⟨n, hn⟩ : ∃ n, n = zs.length := ⟨_, rfl⟩
  rw [← hn]
  have HL := Lib.hid hn
  clear hs hok hn hU
  go_enter Try.func5, Try.ntmps5
  go_wp2_with fail
  with_reducible refine HN.out.mono ?_
  rintro e w1 ⟨arr, rfl, hb, h0, h1, h2, hsz, ha⟩
  have HB := Lib.hid hb
  have HI := Lib.hid (new_isAr (n := 200000) (by omega) h0 h1 h2 hsz ha)
  have HCE := Lib.hid (cells_any zs a c w1 (HS.out.below (by omega) hb))
  unfold Cells at HCE
  rw [← HL.out] at HCE
  clear hb h0 h1 h2 hsz ha
  go_wp2_with fail
  with_reducible refine HCE.out.mono ?_
  rintro e w2 ⟨v, rfl, hb2, hown⟩
  obtain ⟨a2, c2, rfl, hsl⟩ := sl_of_own (bytes := 16) hown (by have := HL.out; omega)
  rw [HL.out] at hsl
  have HF := Lib.hid (from_ok (w.heap.size + 2) 3 (newS 200000) (fun i => w.heap.size ≤ i ∧ i < w.heap.size + 3) zs a2 c2 w2 (HI.out.below hb2) (newS_wf _) (by omega) hsl HOK.out HU.out)
  rw [← HL.out] at HF
  rw [show ((3 : Nat) : Int) = (3 : Int) from rfl] at HF
  have HB2 := Lib.hid (HB.out.trans (hb2.mono HB.out.size))
  clear hb2 hown hsl
  go_wp2_with fail
  with_reducible refine HF.out.mono ?_
  rintro e w3 ⟨lev, hlev, r, er, S, F, rfl, hr, hres, hden, _, hI, hF, hK⟩
  have hcost := costB_le lev (-((2 ^ (lev - 1) : Nat) : Int)) (-((2 ^ (lev - 1) : Nat) : Int)) (tidyF zs).1
  have hln : (tidyF zs).1.length ≤ 300 := by
    have : (tidyF zs).1.length ≤ zs.length := by
      unfold tidyF
      split
      · exact Nat.zero_le _
      · split
        · exact Nat.zero_le _
        · exact sortF_length zs
    omega
  have hmul : lev * (tidyF zs).1.length ≤ 41 * 300 := Nat.mul_le_mul hlev.hi hln
  obtain ⟨k, hk⟩ : ∃ k, k = 200000 - 44 - costB lev (-((2 ^ (lev - 1) : Nat) : Int)) (-((2 ^ (lev - 1) : Nat) : Int)) (tidyF zs).1 := ⟨_, rfl⟩
  obtain ⟨her, hbud⟩ := hres.bud k (newS_bud (by omega) (by omega)) rfl
  subst her
  have hroom := hres.grew.room.1
  have HLEV := Lib.hid hlev
  have HR := Lib.hid hr
  have HRES := Lib.hid hres
  have HDEN := Lib.hid (hden rfl)
  have HII := Lib.hid hI
  have HFF := Lib.hid (show ∀ i, F i → w.heap.size ≤ i from fun i hi => by
    rcases hF i hi with h | h
    · exact h.1
    · exact Nat.le_trans HB2.out.size h)
  have HKK := Lib.hid (show Below w.heap.size w w3 from HB2.out.trans (hK.toBelow (fun i hi => hi.1) HB2.out.size))
  have HLIVE := Lib.hid (show liveL S.L + miss S.L 3 ≤ 44 + lev * (tidyF zs).1.length by
    have h1 := hbud.1
    rw [hroom] at h1
    have h2 : (newS 200000).room = 200000 := rfl
    rw [h2] at h1
    omega)
  clear hlev hr hres hden hI hF hK hcost hln hmul hk hbud hroom
  go_wp2_with fail
  refine bodyPost_ret (v := .tuple #[.pointer (some ⟨w.heap.size + 2, 0, none⟩), .int .i64 r, .int .i64 0, .bool true]) (by simp [results, Try.results5, go_sem]) rfl ?_
  exact ⟨_, lev, r, S, F, rfl, HLEV.out, HR.out, HII.out, HFF.out, HKK.out, HRES.out.grew, HRES.out.wf, HDEN.out, HLIVE.out⟩
end Go.Proofs.Ytabhpbkkjijfjaa
namespace Go.Proofs.Ytabhpbkkjijfjaa
set_option maxRecDepth 100000

/-- Nothing is anybody else's alone. -/
def Only (t : Nat) (S : ArS) : Prop := ∀ i x, atL S.L i = some x → x.ma ≠ 0 → x.ma.testBit t = true
theorem Gave.only {S S' : ArS} {t : Nat} {k : AKey} {lv va r e : Int} (h : Gave S t k lv va r e S') (ho : Only t S) : Only t S' := by
  rcases h with ⟨_, _, _, _, _, _, rfl⟩ | ⟨_, _, _, _, rfl⟩ | ⟨j, y, hy, _, _, _, _, rfl⟩ | ⟨_, _, S1, hS1, h⟩
  · exact ho
  · exact ho
  · intro i x hx hm
    unfold takeA at hx
    simp only at hx
    rw [atL_set (atL_lt hy.1)] at hx
    by_cases e : j = i
    · rw [if_pos e] at hx
      cases hx
      exact bit_same _ _
    · rw [if_neg e] at hx
      exact ho i x hx hm
  · have h1 : Only t S1 := fun i x hx hm => by
      rw [hS1] at hx
      split at hx
      · exact ho i x (swept_at hx) hm
      · exact ho i x hx hm
    rcases h with ⟨_, _, _, rfl⟩ | ⟨_, j, hL, _, _, rfl⟩
    · exact h1
    · intro i x hx hm
      rw [newA_at hL.2.2.1] at hx
      by_cases e : j = i
      · rw [if_pos e] at hx
        cases hx
        exact bit_same _ _
      · rw [if_neg e] at hx
        exact h1 i x hx hm
theorem GrewU.only {U : Th → Prop} {t : Nat} {S S' : ArS} (g : GrewU U t S S') (h : Only t S) : Only t S' := by
  induction g with
  | refl => exact h
  | step _ g _ _ ih => exact g.only ih
theorem only_live {t : Nat} {S : ArS} (h : Only t S) (hall : ∀ i x, atL S.L i = some x → x.ma ≠ 0) : liveL S.L ≤ countL S.L t := by
  unfold liveL countL
  refine List.countP_mono_left fun o ho hs => ?_
  obtain ⟨i, hi⟩ := List.mem_iff_getElem?.1 ho
  cases o with
  | none => cases hs
  | some x =>
    have hx : atL S.L i = some x := atL_some.2 hi
    exact h i x hx (hall i x hx)
/-- A tenant alone in a new arena. -/
structure Alone (U : Th → Prop) (t : Nat) (S : ArS) : Prop where
  own : OwnU U t S
  only : Only t S
  room : S.room = 200000
  quo : S.quo t = 200000
theorem alone_new {U : Th → Prop} {t : Nat} (ht : t < 64) : Alone U t (newS 200000) :=
  ⟨fun i x hx => absurd hx (by rw [newS_at]; simp), fun i x hx => absurd hx (by rw [newS_at]; simp), rfl, by rw [newS_quo _ ht]; rfl⟩
theorem Alone.grew {U : Th → Prop} {t : Nat} {S S' : ArS} (h : Alone U t S) (g : GrewU U t S S') : Alone U t S' :=
  ⟨g.own h.own, g.only h.only, g.room.1.trans h.room, by have := h.quo; unfold ArS.quo at this ⊢; rw [g.room.2]; exact this⟩
/-- All that it asks for has room. -/
theorem Alone.fine {U : Th → Prop} {t : Nat} {S S' : ArS} {er : Int} (h : Alone U t S) (hres : LRes U t S S' 0 er) (ok : ArOk S') (hc : Cov U 199000) : er = 0 := by
  have h' := h.grew hres.grew
  rcases hres.errs rfl with e | e | e
  · exact e
  · obtain ⟨hr, hall⟩ := hres.full rfl e
    have h1 := only_live h'.only hall
    have h2 := count_cov ok h'.own hc
    have := h'.room
    omega
  · obtain ⟨k, th, hu, hk, hn, hq⟩ := hres.lacks rfl e
    have := count_more ok h'.own hc hu hk hn
    have := h'.quo
    omega
end Go.Proofs.Ytabhpbkkjijfjaa
