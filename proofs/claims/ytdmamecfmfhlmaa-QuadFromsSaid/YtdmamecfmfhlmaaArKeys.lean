/-
  The arena's keys, and a map's entry taken away.
-/
import Derived.Test.YtdmamecfmfhlmaaMapCells
import Derived.Test.YtdmamecfmfhlmaaArMath
namespace Go.Proofs.Ytdmamecfmfhlmaa
set_option maxRecDepth 100000
open Go.RowKit Go.MapKept Go.ChangeMaps

def keyA (k : AKey) : Value := .agg #[.int .i64 k.1, .int .i64 k.2.1, .int .i64 k.2.2.1, .int .i64 k.2.2.2.1, .int .i64 k.2.2.2.2]
def GoodA (k : AKey) : Prop := I64 k.1 ∧ I64 k.2.1 ∧ I64 k.2.2.1 ∧ I64 k.2.2.2.1 ∧ I64 k.2.2.2.2
theorem keyA_inj (x y : AKey) (h : keyA x = keyA y) : x = y := by
  obtain ⟨x0, x1, x2, x3, x4⟩ := x
  obtain ⟨y0, y1, y2, y3, y4⟩ := y
  simp only [keyA, Value.agg.injEq] at h
  have := congrArg Array.toList h
  simp at this
  simp [this]
theorem key_keyed : KeyedBy Try.prog 83 keyA GoodA where
  law := Maps.Keyed.of_law (deep_law_gate laidOut (of_decide_eq_true (by kernel_rfl)) (of_decide_eq_true (by kernel_rfl)) (by kernel_rfl) (by kernel_rfl))
  inj := keyA_inj
  reads := fun c h => by
    obtain ⟨x0, x1, x2, x3, x4⟩ := c
    obtain ⟨h0, h1, h2, h3, h4⟩ := h
    have e1 : Try.prog.keyType 83 = true := by kernel_rfl
    have e2 : Value.formed Try.prog 83 (keyA (x0, x1, x2, x3, x4)) = true := by kernel_rfl
    have e3 : Try.prog.cellsOf 61 = 4 := by kernel_rfl
    have e4 : Try.prog.cellsOf 3 = 1 := by kernel_rfl
    have wf : ∀ n, I64 n → (Lit.int .i64 n).wf = true := fun n hn => WalkArith.wf_i64 (by unfold I64 at hn; omega)
    have e5 : Try.prog.cellsOf 83 = 5 := by kernel_rfl
    have li : ∀ d n, I64 n → Try.prog.keyLits (d + 1) 3 [.int .i64 n] = some [.int .i64 n] := fun d n hn => by
      simp [Program.keyLits, Try.underlying3, wf n hn]
    have la : ∀ d, Try.prog.keyLits (d + 2) 61 [.int .i64 x1, .int .i64 x2, .int .i64 x3, .int .i64 x4] = some [.int .i64 x1, .int .i64 x2, .int .i64 x3, .int .i64 x4] := fun d => by
      simp [Program.keyLits, Try.underlying61, Try.underlying3, e3, e4, show List.range 4 = [0, 1, 2, 3] from rfl, wf x1 h1, wf x2 h2, wf x3 h3, wf x4 h4]
    have lc : Try.prog.keyLits (Try.prog.types.size + 1) 83 (keyA (x0, x1, x2, x3, x4)).cells.toList = some [.int .i64 x0, .int .i64 x1, .int .i64 x2, .int .i64 x3, .int .i64 x4] := by
      obtain ⟨d, hd⟩ : ∃ d, Try.prog.types.size = d + 2 := ⟨Try.prog.types.size - 2, by kernel_rfl⟩
      rw [hd]
      unfold Program.keyLits
      simp [Try.underlying83, e3, e4, e5, keyA, Value.cells, li _ x0 h0, la]
    simp only [keyOf, Try.underlying83, e1, e2, lc]
    exact ⟨_, rfl⟩
def delM {α : Type} [DecidableEq α] (f : α → Option Value) (a : α) : α → Option Value := fun x => if x = a then none else f x
theorem delM_same {α : Type} [DecidableEq α] (f : α → Option Value) (a : α) : delM f a a = none := by simp [delM]
theorem delM_other {α : Type} [DecidableEq α] (f : α → Option Value) {a x : α} (h : x ≠ a) : delM f a x = f x := by simp [delM, h]
/-- An entry taken away. -/
theorem MapOf.del {α : Type} [DecidableEq α] {key : α → Value} {Good : α → Prop} {w : World} {b n : Nat} {f : α → Option Value} {P : Program} {k : TypeId} (K : KeyedBy P k key Good) {t e ty : TypeId} (ht : P.underlying t = some (.map k e)) (h : MapOf key Good w b n f) {a : α} (ha : Good a) :
    ∃ w', (Builtin.delete_ #[t, k] ty #[.map (some b), key a]).run P w = .ok (.tuple #[]) w' ∧ MapOf key Good w' b n (delM f a) ∧ Keeps (fun i => i = b) w w' ∧ w'.heap.size = w.heap.size := by
  obtain ⟨es, clock, hb, hn, hs, h1, h2⟩ := h
  have hblt := lt_of_block hb
  obtain ⟨l, hl⟩ := K.reads a ha
  have hat : ∀ o, (setBlock w b o).heap[b]? = some o := fun o => by simp [setBlock, hblt]
  rcases MapOf.find K h1 h2 ha w with ⟨hf, h3, hno⟩ | ⟨j, e0, hj, hk0, hf, h3⟩
  · refine ⟨setBlock w b (.map es clock), ?_, ⟨es, clock, hat _, hn, hs, fun e he => ?_, fun x v hx => ?_⟩, keeps_set _ _ _, by simp [setBlock]⟩
    · simp [Builtin.delete_, run_underlying ht, MapKept.run_getObj_map hb, K.law.check w _ hl, h3, MapKept.run_setObj_map _ hb, Result.andThen, setBlock]
    · obtain ⟨x, hx, hy, hz⟩ := h1 e he
      exact ⟨x, hx, hy, by rw [delM_other f (fun e1 => hno e he (by rw [hy, e1])), hz]⟩
    · by_cases hxa : x = a
      · rw [hxa, delM_same] at hx; cases hx
      · rw [delM_other f hxa] at hx; exact h2 x v hx
  · have hjl := (List.getElem?_eq_some_iff.1 hj).1
    have hjs : j < es.size := by simpa using hjl
    have hsub : (es.eraseIdxIfInBounds j).toList = es.toList.eraseIdx j := by
      unfold Array.eraseIdxIfInBounds
      rw [dif_pos hjs]
      simp
    have other : ∀ e ∈ (es.eraseIdxIfInBounds j).toList, e ∈ es.toList ∧ e.key ≠ key a := fun e he => by
      rw [hsub, List.mem_eraseIdx_iff_getElem?] at he
      obtain ⟨i, hne, hi⟩ := he
      refine ⟨List.mem_of_getElem? hi, fun hk => hne ?_⟩
      have g1 : (es.toList.map (·.key))[i]? = some e.key := by rw [List.getElem?_map, hi]; rfl
      have g2 : (es.toList.map (·.key))[j]? = some e0.key := by rw [List.getElem?_map, hj]; rfl
      have hlt : i < (es.toList.map (·.key)).length := (List.getElem?_eq_some_iff.1 g1).1
      exact (List.getElem?_inj (j := j) hlt hs.2.2).1 (by rw [g1, g2, hk, hk0])
    refine ⟨setBlock w b (.map (es.eraseIdxIfInBounds j) clock), ?_, ⟨_, clock, hat _, Nat.le_trans (MapFrom.size_erase es j) hn, MapKept.stamped_erase hs j, fun e he => ?_, fun x v hx => ?_⟩, keeps_set _ _ _, by simp [setBlock]⟩
    · simp [Builtin.delete_, run_underlying ht, MapKept.run_getObj_map hb, K.law.check w _ hl, h3, MapKept.run_setObj_map _ hb, Result.andThen, setBlock]
    · obtain ⟨hm, hne⟩ := other e he
      obtain ⟨x, hx, hy, hz⟩ := h1 e hm
      exact ⟨x, hx, hy, by rw [delM_other f (fun e1 => hne (by rw [hy, e1])), hz]⟩
    · by_cases hxa : x = a
      · rw [hxa, delM_same] at hx; cases hx
      · rw [delM_other f hxa] at hx
        obtain ⟨e, he, hk⟩ := h2 x v hx
        refine ⟨e, ?_, hk⟩
        rw [hsub, List.mem_eraseIdx_iff_getElem?]
        obtain ⟨i, hi⟩ := List.mem_iff_getElem?.1 he
        refine ⟨i, fun e1 => ?_, hi⟩
        subst e1
        rw [hj] at hi
        cases hi
        exact hxa (K.inj _ _ (hk.symm.trans hk0))
end Go.Proofs.Ytdmamecfmfhlmaa
