/-
  Maps of one's own: what they hold, told as a function of the key; a look-up, an entry made and filled.
-/
import Derived.DeepKeys5
import Derived.WideKeyEntry
import Derived.Maps.Keyed
import Derived.Test.YtabhpbkkjijfjaaGreatDoorZHouseLogs12
import Derived.Test.YtabhpbkkjijfjaaGreatDoorZHouseLogsFoot
namespace Go.Proofs.YtabhpbkkjijfjaaGreatDoor
set_option maxRecDepth 100000
open Go.RowKit Go.MapKept Go.ChangeMaps

structure KeyedBy {α : Type} (P : Program) (k : TypeId) (key : α → Value) (Good : α → Prop) : Prop where
  law : Maps.Keyed P k
  inj : ∀ a b, key a = key b → a = b
  reads : ∀ a, Good a → ∃ l, keyOf P k (key a) = some l
/-- Block b is a map of at most n entries; f tells what it holds. -/
def MapOf {α : Type} (key : α → Value) (Good : α → Prop) (w : World) (b n : Nat) (f : α → Option Value) : Prop :=
  ∃ (es : Array MapEntry) (clock : Nat), w.heap[b]? = some (.map es clock) ∧ es.size ≤ n ∧ Stamped es clock ∧ (∀ e ∈ es.toList, ∃ a, Good a ∧ e.key = key a ∧ f a = some e.val) ∧ ∀ a v, f a = some v → ∃ e ∈ es.toList, e.key = key a
def updM {α : Type} [DecidableEq α] (f : α → Option Value) (a : α) (v : Value) : α → Option Value := fun x => if x = a then some v else f x
theorem updM_same {α : Type} [DecidableEq α] (f : α → Option Value) (a : α) (v : Value) : updM f a v a = some v := by simp [updM]
theorem updM_other {α : Type} [DecidableEq α] (f : α → Option Value) {a x : α} (v : Value) (h : x ≠ a) : updM f a v x = f x := by simp [updM, h]
section
variable {α : Type} {key : α → Value} {Good : α → Prop} {w w' : World} {b n : Nat} {f : α → Option Value} {P : Program} {k : TypeId}
theorem MapOf.new (key : α → Value) (Good : α → Prop) (w : World) (n : Nat) : MapOf key Good (w.alloc (.map #[] 0)) w.heap.size n (fun _ => none) :=
  ⟨#[], 0, blk_last w _ rfl, Nat.zero_le _, ⟨by simp, by simp, by simp⟩, by simp, by simp⟩
theorem MapOf.lt (h : MapOf key Good w b n f) : b < w.heap.size := by obtain ⟨es, c, hb, _⟩ := h; exact lt_of_block hb
theorem MapOf.keep (h : MapOf key Good w b n f) (hb : w'.heap[b]? = w.heap[b]?) : MapOf key Good w' b n f := by
  obtain ⟨es, c, h0, hr⟩ := h
  exact ⟨es, c, by rw [hb]; exact h0, hr⟩
theorem MapOf.mono (h : MapOf key Good w b n f) {m : Nat} (hm : n ≤ m) : MapOf key Good w b m f := by
  obtain ⟨es, c, h0, h1, hr⟩ := h
  exact ⟨es, c, h0, by omega, hr⟩
theorem MapOf.alloc (h : MapOf key Good w b n f) (o : Obj) : MapOf key Good (w.alloc o) b n f := h.keep (Below.heap_alloc _ _ _ h.lt)
theorem MapOf.setCell (h : MapOf key Good w b n f) {a : Addr} (ha : b ≠ a.block) (v : Value) : MapOf key Good (w.setCell a v) b n f := h.keep (Below.heap_setCell _ _ _ _ ha)
/-- How a key is found. -/
theorem MapOf.find (K : KeyedBy P k key Good) {es : Array MapEntry} (h1 : ∀ e ∈ es.toList, ∃ a, Good a ∧ e.key = key a ∧ f a = some e.val) (h2 : ∀ a v, f a = some v → ∃ e ∈ es.toList, e.key = key a) {a : α} (ha : Good a) (w : World) :
    (f a = none ∧ (Instr.findKey k (key a) es.toList).run P w = .ok none w ∧ ∀ e ∈ es.toList, e.key ≠ key a) ∨
      ∃ j e, es.toList[j]? = some e ∧ e.key = key a ∧ f a = some e.val ∧ (Instr.findKey k (key a) es.toList).run P w = .ok (some (j, e.val)) w := by
  have hk : ∀ e ∈ es.toList, ∃ l, keyOf P k e.key = some l := fun e he => by
    obtain ⟨x, hx, hy, _⟩ := h1 e he
    rw [hy]; exact K.reads x hx
  obtain ⟨l, hl⟩ := K.reads a ha
  rcases K.law.find w hl es.toList hk with ⟨h, hno⟩ | ⟨j, e, h, hj, hv⟩
  · refine .inl ⟨?_, h, hno⟩
    cases hf : f a with
    | none => rfl
    | some v => obtain ⟨e, he, hv⟩ := h2 a v hf; exact absurd hv (hno e he)
  · refine .inr ⟨j, e, hj, hv, ?_, h⟩
    obtain ⟨x, hx, hy, hz⟩ := h1 e (List.mem_of_getElem? hj)
    have : x = a := K.inj _ _ (hy.symm.trans hv)
    rw [← this]; exact hz
theorem MapOf.look (K : KeyedBy P k key Good) {t e : TypeId} {z : Value} (ht : P.underlying t = some (.map k e)) (hz : ∀ u : World, (zeroValue e).run P u = .ok z u) (h : MapOf key Good w b n f) {a : α} (ha : Good a) :
    (Instr.lookup t (.map (some b)) (key a) false).run P w = .ok ((f a).getD z) w := by
  obtain ⟨es, clock, hb, hn, hs, h1, h2⟩ := h
  obtain ⟨l, hl⟩ := K.reads a ha
  rcases MapOf.find K h1 h2 ha w with ⟨hf, h3, _⟩ | ⟨j, e0, _, _, hf, h3⟩
  · simp [Instr.lookup, run_underlying ht, MapKept.run_getObj_map hb, K.law.check w _ hl, h3, hz, hf, Result.andThen]
  · simp [Instr.lookup, run_underlying ht, MapKept.run_getObj_map hb, K.law.check w _ hl, h3, hf, Result.andThen]
theorem MapOf.look_ok (K : KeyedBy P k key Good) {t e : TypeId} {z : Value} (ht : P.underlying t = some (.map k e)) (hz : ∀ u : World, (zeroValue e).run P u = .ok z u) (h : MapOf key Good w b n f) {a : α} (ha : Good a) :
    (Instr.lookup t (.map (some b)) (key a) true).run P w = .ok (.tuple #[(f a).getD z, .bool (f a).isSome]) w := by
  obtain ⟨es, clock, hb, hn, hs, h1, h2⟩ := h
  obtain ⟨l, hl⟩ := K.reads a ha
  rcases MapOf.find K h1 h2 ha w with ⟨hf, h3, _⟩ | ⟨j, e0, _, _, hf, h3⟩
  · simp [Instr.lookup, run_underlying ht, MapKept.run_getObj_map hb, K.law.check w _ hl, h3, hz, hf, Result.andThen]
  · simp [Instr.lookup, run_underlying ht, MapKept.run_getObj_map hb, K.law.check w _ hl, h3, hf, Result.andThen]
variable [DecidableEq α]
theorem mapOf_push {es : Array MapEntry} {clock : Nat} (hs : Stamped es clock) (h1 : ∀ e ∈ es.toList, ∃ a, Good a ∧ e.key = key a ∧ f a = some e.val) (h2 : ∀ a v, f a = some v → ∃ e ∈ es.toList, e.key = key a) {a : α} (ha : Good a)
    (hno : ∀ e ∈ es.toList, e.key ≠ key a) (v : Value) (hn : es.size ≤ n) (hb : w'.heap[b]? = some (.map (es.push ⟨key a, v, clock⟩) (clock + 1))) : MapOf key Good w' b (n + 1) (updM f a v) := by
  refine ⟨_, _, hb, by simp; omega, stamped_push hs hno, fun e he => ?_, fun x u hx => ?_⟩
  · simp only [Array.toList_push, List.mem_append, List.mem_singleton] at he
    rcases he with he | rfl
    · obtain ⟨x, hx, hy, hz⟩ := h1 e he
      refine ⟨x, hx, hy, ?_⟩
      rw [updM_other f v (fun e1 => hno e he (by rw [hy, e1])), hz]
    · exact ⟨a, ha, rfl, updM_same f a v⟩
  · by_cases hxa : x = a
    · subst hxa
      exact ⟨⟨key x, v, clock⟩, by simp, rfl⟩
    · rw [updM_other f v hxa] at hx
      obtain ⟨e, he, hv⟩ := h2 x u hx
      exact ⟨e, by simp [he], hv⟩
theorem mapOf_set (K : KeyedBy P k key Good) {es : Array MapEntry} {clock : Nat} (hs : Stamped es clock) (h1 : ∀ e ∈ es.toList, ∃ a, Good a ∧ e.key = key a ∧ f a = some e.val) (h2 : ∀ a v, f a = some v → ∃ e ∈ es.toList, e.key = key a) {a : α} (ha : Good a)
    {j : Nat} {e0 : MapEntry} (hj : es.toList[j]? = some e0) (hk0 : e0.key = key a) (v : Value) (hn : es.size ≤ n) (hb : w'.heap[b]? = some (.map (es.modify j fun e' => { e' with key := key a, val := v }) clock)) : MapOf key Good w' b (n + 1) (updM f a v) := by
  have hj' : es[j]? = some e0 := by simpa using hj
  have hl : (es.modify j fun e' => { e' with key := key a, val := v }).toList = es.toList.set j { e0 with key := key a, val := v } := by
    rw [Array.toList_modify, modify_eq_set _ _ _ _ hj]
  refine ⟨_, _, hb, by simp; omega, stamped_modify hs _ _ (fun _ _ => rfl) (fun e' _ he' => by rw [hj'] at he'; cases he'; exact hk0.symm), fun e he => ?_, fun x u hx => ?_⟩
  · rw [hl] at he
    obtain ⟨i, hi⟩ := List.mem_iff_getElem?.1 he
    rw [List.getElem?_set] at hi
    split at hi
    · split at hi
      · cases hi
        exact ⟨a, ha, rfl, updM_same f a v⟩
      · cases hi
    · next hne =>
      obtain ⟨x, hx, hy, hz⟩ := h1 e (List.mem_of_getElem? hi)
      refine ⟨x, hx, hy, ?_⟩
      have hxa : x ≠ a := fun e1 => by
        have hk : e.key = e0.key := by rw [hy, e1, hk0]
        have g1 : (es.toList.map (·.key))[i]? = some e.key := by rw [List.getElem?_map, hi]; rfl
        have g2 : (es.toList.map (·.key))[j]? = some e0.key := by rw [List.getElem?_map, hj]; rfl
        have hlt : i < (es.toList.map (·.key)).length := (List.getElem?_eq_some_iff.1 g1).1
        have := (List.getElem?_inj (j := j) hlt hs.2.2).1 (by rw [g1, g2, hk])
        exact hne this.symm
      rw [updM_other f v hxa, hz]
  · rw [hl]
    have hlt := (List.getElem?_eq_some_iff.1 hj).1
    by_cases hxa : x = a
    · subst hxa
      exact ⟨_, List.mem_of_getElem? (i := j) (by rw [List.getElem?_set, if_pos rfl, if_pos hlt]), rfl⟩
    · rw [updM_other f v hxa] at hx
      obtain ⟨e, he, hv⟩ := h2 x u hx
      obtain ⟨i, hi⟩ := List.mem_iff_getElem?.1 he
      have hne : j ≠ i := fun e1 => by
        subst e1
        rw [hj] at hi
        cases hi
        exact hxa (K.inj _ _ (hv.symm.trans hk0))
      exact ⟨e, List.mem_of_getElem? (i := i) (by rw [List.getElem?_set, if_neg hne]; exact hi), hv⟩
theorem keeps_set (w : World) (b : Nat) (o : Obj) : Keeps (fun i => i = b) w (setBlock w b o) :=
  ⟨rfl, rfl, rfl, by simp [setBlock], fun i _ hn => by simp [setBlock, Ne.symm hn]⟩
theorem run_entryStore {P : Program} {w : World} {t : TypeId} {b i : Nat} {es : Array MapEntry} {clock : Nat} {st : Int} (val : Value) (hb : w.heap[b]? = some (.map es clock)) (hidx : es.findIdx? (fun e => ((e.born : Nat) : Int) == st) = some i) :
    (Instr.entryStore t (.map (some b)) (.int .i64 st) val).run P w = .ok () (setBlock w b (.map (es.modify i fun e => { e with val := val }) clock)) := by
  simp [Instr.entryStore, MapKept.run_getObj_map hb, asInt, asIntOf, hidx, MapKept.run_setObj_map _ hb, Result.andThen, setBlock]
theorem setBlock_twice (w : World) (b : Nat) (o o' : Obj) : setBlock (setBlock w b o) b o' = setBlock w b o' := by simp [setBlock]
/-- An entry made, and filled; an entry filled at once. -/
theorem MapOf.entry (K : KeyedBy P k key Good) {t e : TypeId} {z : Value} (ht : P.underlying t = some (.map k e)) (hz : ∀ u : World, (zeroValue e).run P u = .ok z u) (h : MapOf key Good w b n f) {a : α} (ha : Good a) :
    ∃ (st : Nat) (W1 : World), (Instr.mapEntry t (.map (some b)) (key a)).run P w = .ok (.tuple #[(f a).getD z, .int .i64 st]) W1 ∧ MapOf key Good W1 b (n + 1) (updM f a ((f a).getD z)) ∧ Keeps (fun i => i = b) w W1 ∧ W1.heap.size = w.heap.size ∧
      ∀ val : Value, ∃ W2 : World, (Instr.entryStore t (.map (some b)) (.int .i64 st) val).run P W1 = .ok () W2 ∧ (Instr.mapUpdate t (.map (some b)) (key a) val).run P w = .ok () W2 ∧ MapOf key Good W2 b (n + 1) (updM f a val) ∧ Keeps (fun i => i = b) w W2 ∧ W2.heap.size = w.heap.size := by
  obtain ⟨es, clock, hb, hn, hs, h1, h2⟩ := h
  have hblt := lt_of_block hb
  obtain ⟨l, hl⟩ := K.reads a ha
  rcases MapOf.find K h1 h2 ha w with ⟨hf, h3, hno⟩ | ⟨j, e0, hj, hk0, hf, h3⟩
  · have hat : ∀ o, (setBlock w b o).heap[b]? = some o := fun o => by simp [setBlock, hblt]
    refine ⟨clock, setBlock w b (.map (es.push ⟨key a, z, clock⟩) (clock + 1)), ?_, ?_, keeps_set _ _ _, by simp [setBlock], fun val => ⟨setBlock w b (.map (es.push ⟨key a, val, clock⟩) (clock + 1)), ?_, ?_, ?_, keeps_set _ _ _, by simp [setBlock]⟩⟩
    · simp [Instr.mapEntry, run_underlying ht, MapKept.run_getObj_map hb, K.law.check w false hl, h3, hz, hf, MapKept.run_setObj_map _ hb, Result.andThen, setBlock, goInt]
    · rw [hf]; exact mapOf_push hs h1 h2 ha hno _ hn (hat _)
    · have hidx : (es.push ⟨key a, z, clock⟩).findIdx? (fun e => ((e.born : Nat) : Int) == ((clock : Nat) : Int)) = some es.size := by
        rw [WideElems.findIdx_arr]
        have := WideElems.findIdx_born (l := (es.push ⟨key a, z, clock⟩).toList) (j := es.size) (e0 := ⟨key a, z, clock⟩) (by
          simp only [Array.toList_push, List.map_append, List.map_cons, List.map_nil]
          refine List.nodup_append.2 ⟨hs.2.1, by simp, fun a ha c hc e1 => ?_⟩
          simp only [List.mem_singleton] at hc
          obtain ⟨x, hx, rfl⟩ := List.mem_map.1 ha
          have := hs.1 x hx
          omega) (by simp)
        exact this
      have hmod : (es.push ⟨key a, z, clock⟩).modify es.size (fun e => { e with val := val }) = es.push ⟨key a, val, clock⟩ := by
        apply Array.ext'
        rw [Array.toList_modify, Array.toList_push, Array.toList_push, ← Array.length_toList, WideElems.modify_last]
      rw [run_entryStore val (hat _) hidx, hmod, setBlock_twice]
    · simp [Instr.mapUpdate, run_underlying ht, MapKept.run_getObj_map hb, K.law.check w false hl, h3, MapKept.run_setObj_map _ hb, Result.andThen, setBlock]
    · exact mapOf_push hs h1 h2 ha hno _ hn (hat _)
  · have hat : ∀ o, (setBlock w b o).heap[b]? = some o := fun o => by simp [setBlock, hblt]
    have hj' : es[j]? = some e0 := by simpa using hj
    have hself : es.modify j (fun e => { e with key := key a }) = es := by
      apply Array.ext'
      rw [Array.toList_modify, modify_eq_set _ _ _ _ hj]
      have : ({ e0 with key := key a } : MapEntry) = e0 := by rw [← hk0]
      rw [this]
      exact WideElems.set_self _ _ _ hj
    have hself2 : es.modify j (fun e => { e with key := key a, val := e0.val }) = es := by
      apply Array.ext'
      rw [Array.toList_modify, modify_eq_set _ _ _ _ hj]
      have : ({ e0 with key := key a, val := e0.val } : MapEntry) = e0 := by rw [← hk0]
      rw [this]
      exact WideElems.set_self _ _ _ hj
    refine ⟨e0.born, setBlock w b (.map es clock), ?_, ?_, keeps_set _ _ _, by simp [setBlock], fun val => ⟨setBlock w b (.map (es.modify j fun e' => { e' with key := key a, val := val }) clock), ?_, ?_, ?_, keeps_set _ _ _, by simp [setBlock]⟩⟩
    · simp [Instr.mapEntry, run_underlying ht, MapKept.run_getObj_map hb, K.law.check w false hl, h3, hj', hk0, K.law.stays w hl, hself, hf, MapKept.run_setObj_map _ hb, Result.andThen, setBlock, goInt]
    · rw [hf]
      exact mapOf_set K hs h1 h2 ha hj hk0 _ hn (by rw [hat, Option.getD_some, hself2])
    · have hidx : es.findIdx? (fun e => ((e.born : Nat) : Int) == ((e0.born : Nat) : Int)) = some j := by
        rw [WideElems.findIdx_arr]
        exact WideElems.findIdx_born hs.2.1 hj
      have hmod : es.modify j (fun e => { e with val := val }) = es.modify j (fun e' => { e' with key := key a, val := val }) := by
        apply Array.ext'
        rw [Array.toList_modify, Array.toList_modify, modify_eq_set _ _ _ _ hj, modify_eq_set _ _ _ _ hj, ← hk0]
      rw [run_entryStore val (hat _) hidx, hmod, setBlock_twice]
    · simp [Instr.mapUpdate, run_underlying ht, MapKept.run_getObj_map hb, K.law.check w false hl, h3, hj', hk0, K.law.stays w hl, MapKept.run_setObj_map _ hb, Result.andThen, setBlock]
    · exact mapOf_set K hs h1 h2 ha hj hk0 _ hn (hat _)
end
/-! ### Maps of cells -/
def keyV (c : Int × Int) : Value := .agg #[.int .i64 c.1, .int .i64 c.2]
theorem keyV_inj (a b : Int × Int) (h : keyV a = keyV b) : a = b := by
  simp only [keyV, Value.agg.injEq] at h
  have := congrArg Array.toList h
  simp at this
  exact Prod.ext this.1 this.2
theorem cell_keyed : KeyedBy Tryz.prog 145 keyV GoodCell where
  law := Maps.Keyed.of_law (deep_law_gate laidOut (of_decide_eq_true (by kernel_rfl)) (of_decide_eq_true (by kernel_rfl)) (by kernel_rfl) (by kernel_rfl))
  inj := keyV_inj
  reads := fun c h => by
    obtain ⟨x, y⟩ := c
    obtain ⟨hx, hy⟩ := h
    have e1 : Tryz.prog.keyType 145 = true := by kernel_rfl
    have e2 : Value.formed Tryz.prog 145 (keyV (x, y)) = true := by kernel_rfl
    have e3 : Tryz.prog.cellsOf 145 = 2 := by kernel_rfl
    have e4 : Tryz.prog.cellsOf 3 = 1 := by kernel_rfl
    have wf : ∀ n, I64 n → (Lit.int .i64 n).wf = true := fun n hn => WalkArith.wf_i64 (by unfold I64 at hn; omega)
    have li : ∀ d n, I64 n → Tryz.prog.keyLits (d + 1) 3 [.int .i64 n] = some [.int .i64 n] := fun d n hn => by
      simp [Program.keyLits, Tryz.underlying3, wf n hn]
    have lc : Tryz.prog.keyLits (Tryz.prog.types.size + 1) 145 (keyV (x, y)).cells.toList = some [.int .i64 x, .int .i64 y] := by
      obtain ⟨d, hd⟩ : ∃ d, Tryz.prog.types.size = d + 1 := ⟨Tryz.prog.types.size - 1, by kernel_rfl⟩
      rw [hd]
      simp [Program.keyLits, Tryz.underlying145, keyV, Value.cells, e3, Tryz.underlying3, e4, wf x hx, wf y hy]
    simp only [keyOf, Tryz.underlying145, e1, e2, lc]
    exact ⟨_, rfl⟩
end Go.Proofs.YtabhpbkkjijfjaaGreatDoor
