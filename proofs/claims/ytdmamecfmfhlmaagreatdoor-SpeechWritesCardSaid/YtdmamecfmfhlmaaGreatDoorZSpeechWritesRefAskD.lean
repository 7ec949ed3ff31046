/-
  The document's reading of a line: what stands in memory.
-/
import Derived.Test.YtdmamecfmfhlmaaGreatDoorZSpeechWritesRead7
import Derived.Test.YtdmamecfmfhlmaaGreatDoorZSpeechWritesSplitRef
import Derived.Test.YtdmamecfmfhlmaaGreatDoorZSpeechWrites42
import Derived.Test.YtdmamecfmfhlmaaGreatDoorZSpeechWritesRefReads
import Derived.Test.YtdmamecfmfhlmaaGreatDoorZSpeechWritesLaidStrs
namespace Go.Proofs.YtdmamecfmfhlmaaGreatDoor
set_option maxRecDepth 100000
open Go.RowKit

def namesT : List (List UInt8) := [[], [110, 101, 119], [115, 101, 116], [103, 101, 116], [115, 116, 101, 112], [99, 111, 117, 110, 116], [98, 111, 120], [100, 114, 111, 112], [99, 111, 112, 121], [108, 101, 97, 115, 101], [99, 108, 101, 97, 110]]
def formsT : List (List UInt8) := [[], [110, 114], [112, 99], [112], [112, 100], [112], [112], [110], [112, 110], [110, 100], []]
theorem names_at : ∀ j, j < 11 → namesT[j]? = some (verbT j) := by decide
theorem forms_at : ∀ j, j < 11 → formsT[j]? = some (formT j) := by decide
theorem form_len : ∀ j, j < 11 → (formT j).length ≤ 2 := by decide
theorem form_five : ∀ j, j < 11 → ∀ f ∈ formT j, f = 110 ∨ f = 112 ∨ f = 114 ∨ f = 100 ∨ f = 99 := by decide
theorem verbUp_le (t : List UInt8) : ∀ k, verbUp t k ≤ k
  | 0 => Nat.le_refl _
  | k + 1 => by
    rw [verbUp]
    split
    · exact Nat.le_refl _
    · exact Nat.le_succ_of_le (verbUp_le t k)
theorem verb_le (t : List UInt8) : verbOf t ≤ 10 := verbUp_le t 10
theorem docA_none {k : Nat} {r : List (List UInt8)} (h : docF r ⟨k, [], [], 0, 0, 0, []⟩ 0 (formT k) = none) : docA k r = none := by unfold docA; rw [h]
theorem drop_at {F : List UInt8} {i : Nat} {f : UInt8} (h : F[i]? = some f) : F.drop i = f :: F.drop (i + 1) := by
  obtain ⟨hi, rfl⟩ := List.getElem?_eq_some_iff.1 h
  exact List.drop_eq_getElem_cons hi
theorem doc_stop {r : List (List UInt8)} {q : Ask} {i : Nat} {F : List UInt8} (hi : i ≤ F.length) (h : i = F.length ∨ F[i]? = some 99) : docF r q i (F.drop i) = some q := by
  rcases h with rfl | h
  · rw [List.drop_length]; rfl
  · rw [drop_at h]
    unfold docF
    rw [if_pos rfl]
theorem doc_out {r : List (List UInt8)} {q : Ask} {i : Nat} {f : UInt8} {fs : List UInt8} (hi : r.length ≤ i) (hf : f ≠ 99) : docF r q i (f :: fs) = none := by
  unfold docF docStep
  rw [if_neg hf, List.getElem?_eq_none hi]
theorem doc_fail {r : List (List UInt8)} {q : Ask} {i : Nat} {f : UInt8} {fs : List UInt8} (hf : f ≠ 99) (h : docStep r i f q = none) : docF r q i (f :: fs) = none := by
  unfold docF
  rw [if_neg hf, h]
theorem doc_next {r : List (List UInt8)} {q q' : Ask} {i : Nat} {f : UInt8} {fs : List UInt8} (hf : f ≠ 99) (h : docStep r i f q = some q') : docF r q i (f :: fs) = docF r q' (i + 1) fs := by
  rw [docF, if_neg hf, h]
theorem step_n {r : List (List UInt8)} {q : Ask} {i : Nat} {t : List UInt8} (h : r[i]? = some t) : docStep r i 110 q = if namedF t = true then some (if i = 0 then { q with name := t } else { q with other := t }) else none := by
  unfold docStep; rw [h]; rfl
theorem step_p {r : List (List UInt8)} {q : Ask} {i : Nat} {t : List UInt8} (h : r[i]? = some t) : docStep r i 112 q = if placeF t = true then some { q with name := t } else none := by
  unfold docStep; rw [h]; rfl
theorem step_r {r : List (List UInt8)} {q : Ask} {i : Nat} {t : List UInt8} (h : r[i]? = some t) : docStep r i 114 q = if ruleOk t = true then some { q with b := (readF t).1.1, l := (readF t).1.2 } else none := by
  unfold docStep; rw [h]; rfl
theorem step_d {r : List (List UInt8)} {q : Ask} {i : Nat} {t : List UInt8} (h : r[i]? = some t) : docStep r i 100 q = if okS t = true then some { q with n := valS t } else none := by
  unfold docStep; rw [h]; rfl
theorem word_at {w : World} {g o m c : Nat} {r : List (List UInt8)} {i : Nat} {t : List UInt8} (h : Row w 9 1 (.slice (some ⟨g, o, none⟩) m c) r.length (encS r)) (hm : m = r.length) (ht : r[i]? = some t) : w.cell? ⟨g, o + i, none⟩ = some (.string (txt t)) := by
  subst hm
  have hi := (List.getElem?_eq_some_iff.1 ht).1
  obtain ⟨g', o', he, hcl, -, -⟩ := h.cells (by omega)
  simp only [Option.some.injEq, Addr.mk.injEq, and_true] at he
  obtain ⟨rfl, rfl⟩ := he
  rw [hcl i (by omega)]
  exact encS_at r i t ht
theorem bytes_keep {W W' : World} {hb : Nat} {F : List UInt8} (h : ∀ j f, F[j]? = some f → W.cell? ⟨hb, j, none⟩ = some (.int .u8 f.toNat)) (hk : ∀ j : Nat, hb < W.heap.size → W'.cell? ⟨hb, j, none⟩ = W.cell? ⟨hb, j, none⟩) : ∀ j f, F[j]? = some f → W'.cell? ⟨hb, j, none⟩ = some (.int .u8 f.toNat) := fun j f hjf =>
  (hk j (World.block_lt_of_cell? _ _ (h j f hjf))).trans (h j f hjf)
theorem bytes_set {W : World} {hb g i j : Nat} {u : Value} (h : hb ≠ g) : (W.setCell ⟨g, i, none⟩ u).cell? ⟨hb, j, none⟩ = W.cell? ⟨hb, j, none⟩ := World.cell?_of_block (Below.heap_setCell W ⟨g, i, none⟩ u hb h)
theorem docA_len {k : Nat} {r : List (List UInt8)} {q : Ask} (h : docF r ⟨k, [], [], 0, 0, 0, []⟩ 0 (formT k) = some q) (hk : k ≠ 2) (hl : r.length ≠ (formT k).length) : docA k r = none := by
  unfold docA; rw [h]; simp only; rw [if_neg hk, if_pos hl]
theorem docA_ok {k : Nat} {r : List (List UInt8)} {q : Ask} (h : docF r ⟨k, [], [], 0, 0, 0, []⟩ 0 (formT k) = some q) (hk : k ≠ 2) (hl : r.length = (formT k).length) : docA k r = some q := by
  unfold docA; rw [h]; simp only; rw [if_neg hk, if_neg (fun e => e hl)]
theorem docA_set {k : Nat} {r : List (List UInt8)} {q : Ask} (h : docF r ⟨k, [], [], 0, 0, 0, []⟩ 0 (formT k) = some q) (hk : k = 2) (hl : r.tail.all cellOk = true) : docA k r = some { q with cells := r.tail.map cellV } := by
  unfold docA; rw [h]; simp only; rw [if_pos hk, if_pos hl]
theorem docA_bad {k : Nat} {r : List (List UInt8)} {q : Ask} (h : docF r ⟨k, [], [], 0, 0, 0, []⟩ 0 (formT k) = some q) (hk : k = 2) (hl : r.tail.all cellOk = false) : docA k r = none := by
  unfold docA; rw [h]; simp only; rw [if_pos hk, if_neg (by rw [hl]; decide)]
theorem doc_two {k : Nat} {r : List (List UInt8)} {q : Ask} (h : docF r ⟨k, [], [], 0, 0, 0, []⟩ 0 (formT k) = some q) (hk : k = 2) : 0 < r.length := by
  subst hk
  cases r with
  | nil => simp [docF, docStep, formT] at h
  | cons a r => simp
theorem all_false {α : Type} {p : α → Bool} {l : List α} {k : Nat} {t : α} (h : l[k]? = some t) (hp : p t = false) : l.all p = false := by
  refine Bool.eq_false_iff.2 fun e => ?_
  have := List.all_eq_true.1 e t (List.mem_of_getElem? h)
  rw [hp] at this; cases this
theorem two_of {α : Type} {l : List α} (h : l.length = 2) : ∃ x y, l = [x, y] := by
  rcases l with _ | ⟨x, _ | ⟨y, _ | ⟨z, l⟩⟩⟩
  · simp at h
  · simp at h
  · exact ⟨x, y, rfl⟩
  · simp at h
theorem cellOk_not2 {t : List UInt8} (h : (splC 44 t).length ≠ 2) : cellOk t = false := by
  unfold cellOk
  rcases hs : splC 44 t with _ | ⟨x, _ | ⟨y, _ | ⟨z, l⟩⟩⟩
  · rfl
  · rfl
  · rw [hs] at h; exact absurd rfl h
  · rfl
theorem sign_same (l : List UInt8) : signA l = numA l := by
  have h := sign_num l
  unfold numS at h
  unfold signA numA
  by_cases h1 : signOk l = true <;> by_cases h2 : okS l = true
  · rw [if_pos h1, if_pos h2] at h
    rw [if_pos h1, if_pos h2, Option.some.inj h, h1, h2]
  · rw [if_pos h1, if_neg h2] at h; cases h
  · rw [if_neg h1, if_pos h2] at h; cases h
  · rw [if_neg h1, if_neg h2, Bool.eq_false_iff.2 h1, Bool.eq_false_iff.2 h2]
/-- The document's request, its result's cells, its words. -/
structure DSt (w W : World) (g : Nat) (q : Ask) (cv v : Value) (ts : List (List UInt8)) : Prop where
  res : W.heap[w.heap.size]? = some (.cells zero7 26 (0, 0))
  q : W.heap[g]? = some (.cells (q.cells' cv).toArray 26 (0, 0))
  ne : w.heap.size < g
  words : PiecesAt w.heap.size W v ts
  below : Below w.heap.size w W
section
variable {w W W' : World} {g : Nat} {q q' : Ask} {cv cv' v v' : Value} {ts ts' : List (List UInt8)}
theorem DSt.keep (h : DSt w W g q cv v ts) (hb : Below W.heap.size W W') : DSt w W' g q cv v ts :=
  ⟨(hb.block _ (lt_of_block h.res)).trans h.res, (hb.block _ (lt_of_block h.q)).trans h.q, h.ne, h.words.below hb, h.below.trans (hb.mono h.below.size)⟩
theorem DSt.grown {zs : List (Int × Int)} {base : Nat} {u : Value} (h : DSt w W g q cv v ts) (hc : CellsAt base W u zs) (hb : w.heap.size ≤ base) (hg : W.grownBy W' u.ownBlock) : DSt w W' g q cv v ts := by
  have k : ∀ (x : Nat) (e : TypeId) (cs : Array Value), W.heap[x]? = some (.cells cs e (0, 0)) → e ≠ 35 → W'.heap[x]? = W.heap[x]? := fun x e cs hx he =>
    hg.block x (lt_of_block hx) (fun e2 => hc.1.ne_type hx (Ne.symm he) e2.symm)
  refine ⟨(k _ _ _ h.res (by decide)).trans h.res, (k _ _ _ h.q (by decide)).trans h.q, h.ne, ⟨h.words.1.keep fun x hx => ?_, h.words.2⟩, h.below.grown hg h.below.size (fun y hy => Nat.le_trans hb (hc.2 y hy))⟩
  obtain ⟨cur, hcur⟩ := h.words.1.typed x hx
  exact k _ _ _ hcur (by decide)
theorem DSt.drew (h : DSt w W g q cv v ts) : DSt w W.drew g q cv v ts := h.keep (Below.refl _ _).drew
theorem DSt.store (h : DSt w W g q cv v ts) (i : Nat) (u : Value) (he : (q'.cells' cv').toArray = (q.cells' cv).toArray.setIfInBounds i u) : DSt w (W.setCell ⟨g, i, none⟩ u) g q' cv' v ts := by
  refine ⟨(Below.heap_setCell _ _ _ _ (by have := h.ne; show w.heap.size ≠ g; omega)).trans h.res, ?_, h.ne, ⟨h.words.1.keep fun x hx => Below.heap_setCell _ _ _ _ (fun e => h.words.1.ne_type h.q (by decide) (by rw [hx, e])), h.words.2⟩, h.below.setCell (Nat.le_of_lt h.ne) _⟩
  rw [heap_setCell_same _ _ _ _ _ _ h.q, he]
theorem DSt.word (h : DSt w W g q cv v ts) (hv : PiecesAt w.heap.size W v' ts') : DSt w W g q cv v' ts' := ⟨h.res, h.q, h.ne, hv, h.below⟩
theorem DSt.seven (h : DSt w W g q cv v ts) : (W.cell? ⟨g, 0, none⟩ = some (.int .i64 q.verb) ∧ W.cell? ⟨g, 1, none⟩ = some (.string (txt q.name)) ∧ W.cell? ⟨g, 2, none⟩ = some (.string (txt q.other)) ∧ W.cell? ⟨g, 3, none⟩ = some (.int .i64 q.b) ∧ W.cell? ⟨g, 4, none⟩ = some (.int .i64 q.l) ∧ W.cell? ⟨g, 5, none⟩ = some (.int .i64 q.n) ∧ W.cell? ⟨g, 6, none⟩ = some cv) ∧ ∀ j, W.frozen? ⟨g, j, none⟩ = false := Go.Proofs.YtdmamecfmfhlmaaGreatDoor.seven h.q
theorem DSt.told (h : DSt w W g q cv v ts) (c0 c1 c2 c3 c4 c5 c6 : Value) : ((set7 W w.heap.size c0 c1 c2 c3 c4 c5 c6).cell? ⟨w.heap.size, 0, none⟩ = some c0 ∧ (set7 W w.heap.size c0 c1 c2 c3 c4 c5 c6).cell? ⟨w.heap.size, 1, none⟩ = some c1 ∧ (set7 W w.heap.size c0 c1 c2 c3 c4 c5 c6).cell? ⟨w.heap.size, 2, none⟩ = some c2 ∧ (set7 W w.heap.size c0 c1 c2 c3 c4 c5 c6).cell? ⟨w.heap.size, 3, none⟩ = some c3 ∧ (set7 W w.heap.size c0 c1 c2 c3 c4 c5 c6).cell? ⟨w.heap.size, 4, none⟩ = some c4 ∧ (set7 W w.heap.size c0 c1 c2 c3 c4 c5 c6).cell? ⟨w.heap.size, 5, none⟩ = some c5 ∧ (set7 W w.heap.size c0 c1 c2 c3 c4 c5 c6).cell? ⟨w.heap.size, 6, none⟩ = some c6) :=
  (Go.Proofs.YtdmamecfmfhlmaaGreatDoor.seven (set7_blk c0 c1 c2 c3 c4 c5 c6 (show W.heap[w.heap.size]? = some (.cells #[_, _, _, _, _, _, _] _ _) from h.res))).1
theorem DSt.belowT (h : DSt w W g q cv v ts) (c0 c1 c2 c3 c4 c5 c6 : Value) : Below w.heap.size w (set7 W w.heap.size c0 c1 c2 c3 c4 c5 c6) :=
  h.below.trans ((set7_keeps (F := fun i => i = w.heap.size) c0 c1 c2 c3 c4 c5 c6 (Keeps.refl _ W) (fun _ => rfl)).toBelow (fun i e => by omega) h.below.size)
theorem DSt.no (h : DSt w W g q cv v ts) {x : Int × Ask} {n : Int} (hx : x = (n, Ask.no)) : ReadsTo w x (.returned (.tuple #[.agg #[.int .i64 0, .string ⟨#[]⟩, .string ⟨#[]⟩, .int .i64 0, .int .i64 0, .int .i64 0, .slice none 0 0], .int .i64 n])) (set7 W w.heap.size (.int .i64 0) (.string ⟨#[]⟩) (.string ⟨#[]⟩) (.int .i64 0) (.int .i64 0) (.int .i64 0) (.slice none 0 0)) := reads_no (h.belowT _ _ _ _ _ _ _) hx
theorem DSt.ok (h : DSt w W g q cv v ts) {x : Int × Ask} (hx : x = (0, q)) (hc : CellsAt w.heap.size W cv q.cells) : ReadsTo w x (.returned (.tuple #[.agg #[.int .i64 q.verb, .string (txt q.name), .string (txt q.other), .int .i64 q.b, .int .i64 q.l, .int .i64 q.n, cv], .int .i64 0])) (set7 W w.heap.size (.int .i64 q.verb) (.string (txt q.name)) (.string (txt q.other)) (.int .i64 q.b) (.int .i64 q.l) (.int .i64 q.n) cv) := by
  subst hx
  exact ⟨cv, rfl, h.belowT _ _ _ _ _ _ _, hc.far h.res fun i hi => set7_other _ _ _ _ _ _ _ hi⟩
end
end Go.Proofs.YtdmamecfmfhlmaaGreatDoor
