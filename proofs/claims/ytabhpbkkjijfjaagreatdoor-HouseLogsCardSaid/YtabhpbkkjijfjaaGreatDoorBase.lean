/-
  The base, over any program: one class of worlds (a world in which nothing old has turned), what a drawn region whose operations read old memory and whose calls make new memory alone comes to; and how the arguments of a law are opened.
-/
import Derived.Test.YtabhpbkkjijfjaaGreatDoorRows
import Derived.WalkKit
import Derived.ProofKit
import Derived.OpenShut
import Derived.ShutString
import Derived.ChangeOld
import Derived.Below
import Derived.BigQuiet
import Derived.SizedLaws
import Derived.Lib.Hide
import Derived.Lib.SmallJoins
import Derived.Deep.Slices
import Derived.Deep.DeepCutAuto
import Derived.Deep.DeepFit
import Derived.Deep.RegionHeld3
import Derived.WalkSpells
import Derived.WalkLawsBesides
namespace Go.Proofs.YtabhpbkkjijfjaaGreatDoor
set_option maxRecDepth 100000
open Go.RowKit Go.ChangeShapes Go.WideShapes

/-- A world that has grown out of w: what was there is as it was. -/
def Grow (w : World) : Type := { w' : World // Below w.heap.size w w' }
def Grow.val {w : World} (x : Grow w) : World := x.1
instance (w : World) : Nonempty (Grow w) := ⟨⟨w, Below.refl _ _⟩⟩
theorem Grow.below {w : World} (x : Grow w) : Below w.heap.size w x.val := x.2
theorem Grow.cell {w : World} (x : Grow w) {b o : Nat} {v : Value} (h : w.cell? ⟨b, o, none⟩ = some v) : x.val.cell? ⟨b, o, none⟩ = some v := by
  rw [x.below.cell (World.block_lt_of_cell? w _ h)]; exact h
theorem Grow.cells {w : World} {b o : Nat} {v : Value} (h : w.cell? ⟨b, o, none⟩ = some v) : ∀ x : Grow w, x.val.cell? ⟨b, o, none⟩ = some v := fun x => x.cell h

/-- A drawn region, by one walk in the order of the text, in the class of the grown worlds. -/
theorem wp_region_grow {P : Program} {id : Nat} {Q : Exit → Act → World → Prop} {a : Act} {w : World} {l : List Oper} (hm : P.follows .mixedOrders = true) (hB : Region.lexB .any l.toArray = true)
    (h : wpQuiet P l.toArray (fun w' => ∃ x : Grow w, w' = x.val) (fun a' => ∀ w', (∃ x : Grow w, w' = x.val) → Q .normal a' w') l a) : (Code.region id l.toArray true).wp P Q a w :=
  wp_region_quiet (C := fun w' => ∃ x : Grow w, w' = x.val) hm hB ⟨⟨w.drew, (Below.refl _ _).drew⟩, rfl⟩ (by simpa using h)

/-- A call whose contract ends in 'Below': met inside such a region. -/
theorem grow_of {P : Program} {f : FuncId} {args : Array Value} {w : World} {x : Grow w} {v : Value}
    (h : Calls P f args x.val fun e w' => e = .returned v ∧ Below x.val.heap.size x.val w') : Calls P f args x.val fun e w'' => e = .returned v ∧ ∃ y : Grow w, w'' = y.val :=
  h.mono fun _ w' ⟨he, hb⟩ => ⟨he, ⟨w', x.below.trans (hb.mono x.below.size)⟩, rfl⟩

/-! ### What a law's arguments read as -/

theorem weights_le {H : Type} {P : Program} {ts : List TypeId} {ds : List (DataW H)} (h : (DataW.weightsEach P ts ds).all (· ≤ reachBytes) = true) (j : Nat) {t : TypeId} {d : DataW H}
    (ht : ts[j]? = some t) (hd : ds[j]? = some d) : ∀ n ∈ d.weights P t, n ≤ reachBytes := fun n hn => by
  have := List.all_eq_true.1 h n (DataW.weights_mem_each ht hd n hn)
  simpa using this

theorem trodAll_below {H : Type} {enc : TypeId × Value → H} {P : Program} {W W' : World} (hl : laidOutB P = true) : ∀ {ts : List TypeId} {vs : List Value} {ds : List (DataW H)} {ps : List MemPlace},
    (ts.all fun t => P.readableRec t && decide (t < P.types.size)) = true → DataW.TrodAll enc P W 0 (fun _ => true) true ts vs ds ps → Below W.heap.size W W' →
    DataW.TrodAll enc P W' 0 (fun b => decide (b < W.heap.size)) true ts vs ds ps
  | [], vs, ds, ps, _, h, _ => by
    obtain ⟨rfl, rfl, rfl⟩ := trodAll_nil h
    exact rfl
  | t :: ts, vs, ds, ps, hr, h, hb => by
    obtain ⟨v, vs', d, ds', p, q, rfl, rfl, rfl, hd, hrest⟩ := trodAll_cons h
    simp only [List.all_cons, Bool.and_eq_true, decide_eq_true_eq] at hr
    have lt : ∀ x ∈ p, x.block < W.heap.size := by obtain ⟨m, hm⟩ := hd; exact DataW.trod_lt m _ _ _ hm
    exact trodAll_cons_mk (Below.trod hl hr.1.1 hr.1.2 hd hb lt) (trodAll_below hl (by simpa using hr.2) hrest hb)

/-- How a type's readings are opened: 'R w z cs': in the world w the cells cs are the datum z. -/
def Opens (P : Program) (t : TypeId) (k : Nat) {α : Type} (R : World → α → List Value → Prop) : Prop :=
  P.cellsOf t = k ∧ ∀ {H : Type} (enc : TypeId × Value → H) (w : World) (fuel : Nat) (cs : List Value) (x : DataW H × List MemPlace),
    DataW.trod enc P w 0 (fun _ => true) true fuel t cs = some x → (∀ n ∈ x.1.weights P t, n ≤ reachBytes) → cs.length = k ∧ ∃ z, R w z cs

def RInt (_ : World) (n : Int) (cs : List Value) : Prop := cs = [.int .i64 n] ∧ -9223372036854775808 ≤ n ∧ n ≤ 9223372036854775807
def RBool (_ : World) (b : Bool) (cs : List Value) : Prop := cs = [.bool b]
def RStr (_ : World) (s : ByteArray) (cs : List Value) : Prop := cs = [.string s] ∧ s.size ≤ 140737488351232
theorem opens_int {P : Program} {t : TypeId} (ht : P.underlying t = some (.int .i64)) (hk : P.cellsOf t = 1) : Opens P t 1 RInt :=
  ⟨hk, fun enc w fuel cs x h _ => by
    obtain ⟨n, rfl, _, wf⟩ := DataW.trod_int ht h
    have b : Joins.In64 n := bounds_i64 wf
    unfold Joins.In64 at b
    exact ⟨rfl, n, rfl, by omega, by omega⟩⟩
theorem opens_bool {P : Program} {t : TypeId} (ht : P.underlying t = some .bool) (hk : P.cellsOf t = 1) : Opens P t 1 RBool :=
  ⟨hk, fun enc w fuel cs x h _ => by
    obtain ⟨b, rfl, _⟩ := DataW.trod_bool ht h
    exact ⟨rfl, b, rfl⟩⟩
theorem opens_string {P : Program} {t : TypeId} (ht : P.underlying t = some .string) (hk : P.cellsOf t = 1) : Opens P t 1 RStr :=
  ⟨hk, fun enc w fuel cs x h hw => by
    obtain ⟨s, rfl, rfl, _⟩ := DataW.trod_string ht h
    have := hw s.data.toList.length (by simp [DataW.weights])
    exact ⟨rfl, s, rfl, by simpa [reachBytes] using this⟩⟩

/-- A slice: its elements, each of k cells, lie one behind the other. -/
def RSlice {α : Type} (k bytes : Nat) (R : World → α → List Value → Prop) (w : World) (zs : List α) (cs : List Value) : Prop :=
  ∃ a cap, cs = [.slice a zs.length cap] ∧ zs.length ≤ cap ∧ cap ≤ maxLen ∧ cap * bytes ≤ 140737488351232 ∧ (a = none → cap = 0) ∧
    ∀ i z, zs[i]? = some z → ∃ b o c, a = some ⟨b, o, none⟩ ∧ R w z c ∧ c.length = k ∧ ∀ j u, c[j]? = some u → w.cell? ⟨b, o + i * k + j, none⟩ = some u
theorem weightsAll_mem {H : Type} {P : Program} {e : TypeId} {q : Nat} : ∀ {l : List (DataW H)} {d : DataW H}, d ∈ l → q ∈ d.weights P e → q ∈ DataW.weightsAll P e l
  | [], d, hd, _ => by cases hd
  | y :: ys, d, hd, hq => by
    simp only [DataW.weightsAll, List.mem_append]
    rcases List.mem_cons.1 hd with rfl | hd
    · exact Or.inl hq
    · exact Or.inr (weightsAll_mem hd hq)
theorem choose_list {α : Type} {p : Nat → α → Prop} : ∀ n, (∀ i, i < n → ∃ x, p i x) → ∃ l : List α, l.length = n ∧ ∀ i z, l[i]? = some z → p i z
  | 0, _ => ⟨[], rfl, fun i z h => by simp at h⟩
  | n + 1, h => by
    obtain ⟨l, hl, hp⟩ := choose_list n fun i hi => h i (Nat.lt_succ_of_lt hi)
    obtain ⟨x, hx⟩ := h n (Nat.lt_succ_self n)
    refine ⟨l ++ [x], by simp [hl], fun i z hz => ?_⟩
    rcases Nat.lt_or_ge i n with hi | hi
    · rw [List.getElem?_append_left (by omega)] at hz; exact hp i z hz
    · rw [List.getElem?_append_right (by omega)] at hz
      have e : i - l.length = 0 := by
        rcases Nat.eq_or_lt_of_le (Nat.zero_le (i - l.length)) with h0 | h0
        · exact h0.symm
        · rw [List.getElem?_eq_none (by simp; omega)] at hz; cases hz
      rw [e] at hz
      simp at hz
      have : i = n := by omega
      subst this; subst hz; exact hx
theorem opens_slice {P : Program} {t e : TypeId} {k bytes : Nat} {α : Type} {R : World → α → List Value → Prop} (ht : P.underlying t = some (.slice e)) (hk : P.cellsOf t = 1) (hby : P.bytesOf e = bytes) (hpos : 0 < k) (he : Opens P e k R) :
    Opens P t 1 (RSlice k bytes R) :=
  ⟨hk, fun enc w fuel cs x h hw => by
    rcases Deep.open_slice ht h with ⟨rfl, rfl⟩ | ⟨a, len, cap, m, n, D, Pl, rfl, _, hl, hm, hmm, rfl, hx⟩
    · exact ⟨rfl, [], none, 0, rfl, Nat.le_refl _, by simp [maxLen], by omega, fun _ => rfl, fun i z hz => by simp at hz⟩
    · simp only [if_true] at hmm
      subst hmm
      have hb : m * bytes ≤ 140737488351232 := by
        have := hw ((((List.range len).map D).length + ((List.range (m - len)).map fun j => D (len + j)).length) * P.bytesOf e) (by simp [DataW.weights, ht])
        simp only [List.length_map, List.length_range, hby, reachBytes] at this
        have e1 : len + (m - len) = m := by omega
        rw [e1] at this
        omega
      have hk1 := he.1
      have key : ∀ i, i < len → ∃ z, ∃ b o c, some a = some (⟨b, o, none⟩ : Addr) ∧ R w z c ∧ c.length = k ∧ ∀ j u, c[j]? = some u → w.cell? ⟨b, o + i * k + j, none⟩ = some u := by
        intro i hi
        obtain ⟨cs', h1, h2⟩ := hx i (by omega)
        have hwi : ∀ q ∈ (D i).weights P e, q ≤ reachBytes := by
          intro q hq
          refine hw q ?_
          simp only [DataW.weights, ht, List.mem_cons, List.mem_append]
          right; left
          exact weightsAll_mem (d := D i) (List.mem_map.2 ⟨i, by simpa using hi, rfl⟩) hq
        obtain ⟨hlen, z, hz⟩ := he.2 enc w n cs' _ h2 hwi
        rw [hk1] at h1
        obtain ⟨_, _, hcell⟩ := World.cells?_some h1
        have c0 := hcell 0 hpos
        obtain ⟨u0, hu0⟩ : ∃ u, cs'[0]? = some u := ⟨cs'[0]'(by omega), by simp⟩
        rw [hu0] at c0
        obtain ⟨b, o, sp⟩ := a
        have hs1 : sp = none ∨ i * k ≠ 0 := by
          by_cases h0 : i * k = 0
          · left
            have := World.cell?_spot c0
            simpa [Addr.add, h0] using this
          · exact Or.inr h0
        have hz0 : 0 < len := by omega
        have hsp : sp = none := by
          obtain ⟨cs0, g1, g2⟩ := hx 0 (by omega)
          rw [hk1] at g1
          obtain ⟨_, gl, gcell⟩ := World.cells?_some g1
          have g0 := gcell 0 hpos
          obtain ⟨u1, hu1⟩ : ∃ u, cs0[0]? = some u := ⟨cs0[0]'(by omega), by simp⟩
          rw [hu1] at g0
          have := World.cell?_spot g0
          simpa [Addr.add] using this
        subst hsp
        refine ⟨z, b, o, cs', rfl, hz, hlen, fun j u hu => ?_⟩
        have hj : j < k := by
          have := (List.getElem?_eq_some_iff.1 hu).1
          omega
        have := hcell j hj
        rw [hu, Addr.add_lit, Addr.add_lit] at this
        exact this
      obtain ⟨zs, hzl, hzs⟩ := choose_list len key
      refine ⟨rfl, zs, some a, m, by rw [hzl], by omega, hm, hb, (fun h => by cases h), fun i z hz => hzs i z hz⟩⟩

/-- Fields one behind the other. -/
def RNil (_ : World) (_ : Unit) (cs : List Value) : Prop := cs = []
def RCons {α β : Type} (k : Nat) (R : World → α → List Value → Prop) (S : World → β → List Value → Prop) (w : World) (z : α × β) (cs : List Value) : Prop :=
  R w z.1 (cs.take k) ∧ S w z.2 (cs.drop k)
structure OpensFields (P : Program) (fs : List Field) (o : Nat) (k : Nat) {α : Type} (R : World → α → List Value → Prop) : Prop where
  go : ∀ {H : Type} (enc : TypeId × Value → H) (w : World) (n : Nat) (cs : List Value) (xs : List (DataW H × List MemPlace)), cs.length = o + k → xs.length = fs.length →
    (∀ (i : Nat) (f : Field), fs[i]? = some f → DataW.trod enc P w 0 (fun _ => true) true n f.type ((cs.drop f.offset).take (P.cellsOf f.type)) = xs[i]?) →
    (∀ q ∈ DataW.weightsEach P (fs.map (·.type)) (xs.map (·.1)), q ≤ reachBytes) → ∃ z, R w z (cs.drop o)
theorem opensFields_nil {P : Program} {o : Nat} : OpensFields P [] o 0 RNil := ⟨fun enc w n cs xs hl _ _ _ => ⟨(), by simp [RNil]; omega⟩⟩
theorem opensFields_cons {P : Program} {f : Field} {fs : List Field} {o k k' kk : Nat} {α β : Type} {R : World → α → List Value → Prop} {S : World → β → List Value → Prop} (hf : f.offset = o) (h : Opens P f.type k R) (hs : OpensFields P fs (o + k) k' S) (hkk : kk = k + k' := by rfl) :
    OpensFields P (f :: fs) o kk (RCons k R S) := ⟨fun enc w n cs xs hl hx hall hw => by
  match xs, hx with
  | y :: ys, hx =>
    have h0 := hall 0 f rfl
    rw [hf, h.1] at h0
    simp only [List.getElem?_cons_zero] at h0
    obtain ⟨_, z, hz⟩ := h.2 enc w n _ y h0 (fun q hq => hw q (by simp only [List.map_cons, DataW.weightsEach, List.mem_append]; exact Or.inl hq))
    obtain ⟨z', hz'⟩ := hs.go enc w n cs ys (by subst hkk; omega) (by simpa using hx) (fun i g hg => by simpa using hall (i + 1) g (by simpa using hg))
      (fun q hq => hw q (by simp only [List.map_cons, DataW.weightsEach, List.mem_append]; exact Or.inr hq))
    exact ⟨(z, z'), hz, by rw [List.drop_drop]; exact hz'⟩⟩
theorem opens_struct {P : Program} {t : TypeId} {fs : Array Field} {k : Nat} {α : Type} {R : World → α → List Value → Prop} (ht : P.underlying t = some (.struct fs)) (hk : P.cellsOf t = k) (h : OpensFields P fs.toList 0 k R) : Opens P t k R :=
  ⟨hk, fun enc w fuel cs x hx hw => by
    obtain ⟨xs, n, _, rfl, hl, hlen, hall⟩ := DataW.trod_struct ht hx
    obtain ⟨z, hz⟩ := h.go enc w n cs xs (by omega) (by simpa using hlen) (fun i f hf => hall i f (by simpa using hf)) (by simpa [DataW.weights, ht] using hw)
    exact ⟨by omega, z, by simpa using hz⟩⟩

/-- A value of a type of one cell, and of a struct, by its cells. -/
theorem opens_value1 {P : Program} {t : TypeId} {α : Type} {R : World → α → List Value → Prop} (h : Opens P t 1 R) {H : Type} {enc : TypeId × Value → H} {w : World} {v : Value} {d : DataW H} {ps : List MemPlace}
    (hx : DataW.Trod enc P w 0 (fun _ => true) true t v d ps) (hw : ∀ n ∈ d.weights P t, n ≤ reachBytes) : ∃ z, R w z v.cells.toList := by
  obtain ⟨fuel, hf⟩ := hx
  exact (h.2 enc w fuel _ _ hf hw).2
theorem opens_value {P : Program} {t : TypeId} {k : Nat} {α : Type} {R : World → α → List Value → Prop} (h : Opens P t k R) {H : Type} {enc : TypeId × Value → H} {w : World} {v : Value} {d : DataW H} {ps : List MemPlace}
    (hx : DataW.Trod enc P w 0 (fun _ => true) true t v d ps) (hw : ∀ n ∈ d.weights P t, n ≤ reachBytes) : ∃ z, R w z v.cells.toList := by
  obtain ⟨fuel, hf⟩ := hx
  exact (h.2 enc w fuel _ _ hf hw).2

theorem own : ownKnob Tryz.prog.godebug = none := by kernel_rfl
theorem laidOut : laidOutB Tryz.prog = true := by kernel_rfl
end Go.Proofs.YtabhpbkkjijfjaaGreatDoor
