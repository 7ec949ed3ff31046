/-
  What the arguments of the laws read as, a predicate for each type, over this seat's numbers; A drawn region whose loads come ahead of stores: a load is taken first where, as long as it is pending, its cell is as it was: the condition on the world hangs on which operations have come up. Over any program.
-/
import Derived.Deep.AppendLies
import Derived.OrdersHeld
import Derived.Test.YtabhpbkkjijfjaaBase
namespace Go.Proofs.Ytabhpbkkjijfjaa
set_option maxRecDepth 100000
open Go.RowKit Go.ChangeShapes Go.WideShapes
open Go.ChangeMaps (open_string shut_string)

/-- The cells fl lie in block b from o on. -/
def RowAt (w : World) (b o : Nat) (fl : List Value) : Prop := ∀ j u, fl[j]? = some u → w.cell? ⟨b, o + j, none⟩ = some u
/-- A slice of n elements, k cells and so many bytes each, whose cells are fl: its address, its room. -/
structure Sl (w : World) (k bytes : Nat) (a : Option Addr) (n cap : Nat) (fl : List Value) : Prop where
  len : fl.length = n * k
  room : n ≤ cap
  fits : cap ≤ maxLen
  nil : a = none → cap = 0
  wide : n * bytes ≤ 140737488351232
  row : 0 < n → ∃ b o, a = some ⟨b, o, none⟩ ∧ RowAt w b o fl
def IsSl (w : World) (k bytes : Nat) (v : Value) (n : Nat) (fl : List Value) : Prop := ∃ a cap, v = .slice a n cap ∧ Sl w k bytes a n cap fl

theorem RowAt.below {w w' : World} {b o B : Nat} {fl : List Value} (h : RowAt w b o fl) (hb : Below B w w') (hB : b < B) : RowAt w' b o fl := fun j u hu => by
  rw [hb.cell hB]; exact h j u hu
theorem RowAt.lt {w : World} {b o : Nat} {fl : List Value} (h : RowAt w b o fl) (hp : 0 < fl.length) : b < w.heap.size := by
  match fl, hp with
  | u :: r, _ => exact World.block_lt_of_cell? w _ (h 0 u rfl)
/-- The block of a slice that is not empty is there. -/
theorem Sl.lt {w : World} {k bytes n cap : Nat} {b o : Nat} {fl : List Value} (h : Sl w k bytes (some ⟨b, o, none⟩) n cap fl) (hn : 0 < n) (hk : 0 < k) : b < w.heap.size := by
  obtain ⟨b', o', e, hr⟩ := h.row hn
  simp only [Option.some.injEq, Addr.mk.injEq, and_true] at e
  obtain ⟨rfl, rfl⟩ := e
  exact hr.lt (by rw [h.len]; exact Nat.mul_pos hn hk)
theorem Sl.below {w w' : World} {k bytes n cap : Nat} {a : Option Addr} {fl : List Value} (h : Sl w k bytes a n cap fl) (hk : 0 < k) (hb : Below w.heap.size w w') : Sl w' k bytes a n cap fl :=
  ⟨h.len, h.room, h.fits, h.nil, h.wide, fun hn => by
    obtain ⟨b, o, e, hr⟩ := h.row hn
    exact ⟨b, o, e, hr.below hb (hr.lt (by rw [h.len]; exact Nat.mul_pos hn hk))⟩⟩
theorem Sl.grow {w : World} {k bytes n cap : Nat} {a : Option Addr} {fl : List Value} (h : Sl w k bytes a n cap fl) (hk : 0 < k) (x : Grow w) : Sl x.val k bytes a n cap fl := h.below hk x.below
theorem Sl.news {w : World} {k bytes n cap : Nat} {ad : Addr} {fl : List Value} (h : Sl w k bytes (some ad) n cap fl) : ∀ j u, fl[j]? = some u → w.cell? (ad.add j) = some u := by
  intro j u hu
  have hj := (List.getElem?_eq_some_iff.1 hu).1
  have hn : 0 < n := by
    rcases Nat.eq_zero_or_pos n with h0 | h0
    · have := h.len; rw [h0, Nat.zero_mul] at this; omega
    · exact h0
  obtain ⟨b, o, e, hr⟩ := h.row hn
  simp only [Option.some.injEq] at e
  subst e
  rw [Addr.add_lit]; exact hr j u hu
/-- What the call owns reads as a slice. -/
theorem sl_of_own {w : World} {base : Nat} {e : TypeId} {k bytes n : Nat} {v : Value} {fl : List Value} (h : w.ownsRow base e k v n fl) (hb : n * bytes ≤ 140737488351232) : IsSl w k bytes v n fl := by
  rcases h.2 with ⟨rfl, rfl⟩ | ⟨g, cap, cur, rfl, _, hg, hc, hm, hs, ht⟩
  · exact ⟨none, 0, rfl, h.1, Nat.le_refl _, by simp [maxLen], fun _ => rfl, hb, fun hp => by omega⟩
  · refine ⟨_, cap, rfl, h.1, hc, hm, (fun h => by cases h), hb, fun hp => ⟨g, 0, rfl, fun j u hu => ?_⟩⟩
    have := h.cells (g := g) rfl j u hu
    rwa [Addr.add_lit] at this
theorem flat_length {α : Type} {k : Nat} {enc : α → List Value} (he : ∀ z, (enc z).length = k) : ∀ zs : List α, (zs.flatMap enc).length = zs.length * k
  | [] => by simp
  | z :: zs => by simp [flat_length he zs, he, Nat.add_mul]; omega
theorem flat_get {α : Type} {k : Nat} {enc : α → List Value} (hk : 0 < k) (he : ∀ z, (enc z).length = k) : ∀ (zs : List α) (q : Nat) (u : Value), (zs.flatMap enc)[q]? = some u → ∃ z, zs[q / k]? = some z ∧ (enc z)[q % k]? = some u
  | [], q, u, h => by simp at h
  | z :: zs, q, u, h => by
    rw [List.flatMap_cons] at h
    by_cases hq : q < k
    · rw [List.getElem?_append_left (by rw [he]; exact hq)] at h
      exact ⟨z, by simp [Nat.div_eq_of_lt hq], by rw [Nat.mod_eq_of_lt hq]; exact h⟩
    · rw [List.getElem?_append_right (by rw [he]; omega), he] at h
      obtain ⟨z', h1, h2⟩ := flat_get hk he zs (q - k) u h
      have hq' : k ≤ q := by omega
      rw [Nat.div_eq_sub_div hk hq', Nat.mod_eq_sub_mod hq']
      exact ⟨z', by simpa using h1, h2⟩
theorem flat_at {α : Type} {k : Nat} {enc : α → List Value} (hk : 0 < k) (he : ∀ z, (enc z).length = k) : ∀ (zs : List α) (i j : Nat) (z : α), zs[i]? = some z → j < k → (zs.flatMap enc)[i * k + j]? = (enc z)[j]?
  | [], i, j, z, h, _ => by simp at h
  | y :: zs, 0, j, z, h, hj => by
    simp only [List.getElem?_cons_zero, Option.some.injEq] at h
    subst h
    rw [List.flatMap_cons, Nat.zero_mul, Nat.zero_add, List.getElem?_append_left (by rw [he]; exact hj)]
  | y :: zs, i + 1, j, z, h, hj => by
    rw [List.flatMap_cons, List.getElem?_append_right (by rw [he, Nat.add_mul]; omega), he]
    have e : (i + 1) * k + j - k = i * k + j := by rw [Nat.add_mul]; omega
    rw [e]
    exact flat_at hk he zs i j z (by simpa using h) hj

theorem isSl_of {α : Type} {k bytes : Nat} {enc : α → List Value} {Good : α → Prop} {R : World → α → List Value → Prop} (hk : 0 < k) (he : ∀ z, (enc z).length = k) (hR : ∀ w z c, R w z c → c = enc z ∧ Good z)
    {w : World} {zs : List α} {v : Value} (h : RSlice k bytes R w zs [v]) : IsSl w k bytes v zs.length (zs.flatMap enc) ∧ ∀ z ∈ zs, Good z := by
  obtain ⟨a, cap, hv, hl, hm, hb, hn, hx⟩ := h
  simp only [List.cons.injEq, and_true] at hv
  subst hv
  refine ⟨⟨a, cap, rfl, flat_length he zs, hl, hm, hn, Nat.le_trans (Nat.mul_le_mul_right _ hl) hb, fun hp => ?_⟩, fun z hz => ?_⟩
  · match zs, hp, hx with
    | y :: ys, _, hx =>
      obtain ⟨b, o, c, rfl, _, _, _⟩ := hx 0 y rfl
      refine ⟨b, o, rfl, fun j u hu => ?_⟩
      obtain ⟨z, h1, h2⟩ := flat_get hk he _ j u hu
      obtain ⟨b', o', c, hbo, hr, hlen, hc⟩ := hx (j / k) z h1
      simp only [Option.some.injEq, Addr.mk.injEq, and_true] at hbo
      obtain ⟨rfl, rfl⟩ := hbo
      obtain ⟨rfl, _⟩ := hR w z c hr
      have := hc (j % k) u h2
      have e : o + j / k * k + j % k = o + j := by have := Nat.div_add_mod j k; rw [Nat.mul_comm] at this; omega
      rw [e] at this
      exact this
  · obtain ⟨i, hi, rfl⟩ := List.getElem_of_mem hz
    obtain ⟨b, o, c, _, hr, _⟩ := hx i _ (List.getElem?_eq_getElem hi)
    exact (hR w _ c hr).2

/-! ### Blocks that stay -/
theorem blk_alloc {w : World} {k : Nat} {o : Obj} (h : w.heap[k]? = some o) (x : Obj) : (w.alloc x).heap[k]? = some o := by
  rw [Below.heap_alloc _ _ _ (lt_of_block h)]; exact h
theorem blk_grown {w w' : World} {k : Nat} {o : Obj} {row : Option Nat} (hg : w.grownBy w' row) (h : w.heap[k]? = some o) (hne : some k ≠ row) : w'.heap[k]? = some o := by
  rw [hg.block k (lt_of_block h) hne]; exact h
theorem blk_set {w : World} {k : Nat} {o : Obj} {a : Addr} (h : w.heap[k]? = some o) (hne : k ≠ a.block) (v : Value) : (w.setCell a v).heap[k]? = some o := by
  rw [Below.heap_setCell _ _ _ _ hne]; exact h
theorem own_ne {w : World} {base : Nat} {e : TypeId} {size : Nat} {v : Value} {n : Nat} {xs : List Value} (h : w.ownsRow base e size v n xs) {k : Nat} (hk : k < base) : some k ≠ v.ownBlock := by
  intro hh
  have := (h.lt k hh.symm).1
  omega
theorem own_form {w : World} {base : Nat} {e : TypeId} {size : Nat} {v : Value} {n : Nat} {xs : List Value} (h : w.ownsRow base e size v n xs) : ∃ a c, v = .slice a n c := by
  rcases Joins.ownsRow_forms h with ⟨h, h0⟩ | ⟨g, c, h⟩
  · exact ⟨none, 0, by rw [h, h0]⟩
  · exact ⟨_, _, h⟩
theorem blk_last (w : World) (o : Obj) {n : Nat} (hn : n = w.heap.size) : (w.alloc o).heap[n]? = some o := by subst hn; exact heap_alloc_new w o
theorem news_alloc (w : World) (l : List Value) (t : TypeId) {n : Nat} (hn : n = w.heap.size) : ∀ j u, l[j]? = some u → (w.alloc (.cells l.toArray t)).cell? ((⟨n, 0, none⟩ : Addr).add j) = some u := by
  intro j u hj
  rw [Addr.add_lit, Nat.zero_add, Joins.cell_of_block (blk_last w _ hn)]
  simpa using hj

def I64 (n : Int) : Prop := -9223372036854775808 ≤ n ∧ n ≤ 9223372036854775807

/-! ### Plain ones -/
def Is_int (_ : World) (v : Value) : Prop := ∃ n, v = .int .i64 n ∧ I64 n
def Is_bool (_ : World) (v : Value) : Prop := ∃ b, v = .bool b
def Is_string (_ : World) (v : Value) : Prop := ∃ s : ByteArray, v = .string s ∧ s.size ≤ 140737488351232
theorem o_int : Opens Try.prog 3 1 RInt := opens_int Try.underlying3 (by kernel_rfl)
theorem o_bool : Opens Try.prog 4 1 RBool := opens_bool Try.underlying4 (by kernel_rfl)
theorem o_string : Opens Try.prog 9 1 RStr := opens_string Try.underlying9 (by kernel_rfl)
section
variable {H : Type} {enc : TypeId × Value → H} {w : World} {v : Value} {d : DataW H} {ps : List MemPlace} {r : Reach} {b0 : Nat}
theorem open_int (hv : Value.okWide Try.prog w r b0 3 v) (h : DataW.Trod enc Try.prog w 0 (fun _ => true) true 3 v d ps) (_ : ∀ n ∈ d.weights Try.prog 3, n ≤ reachBytes) : Is_int w v := by
  obtain ⟨n, rfl, rfl, rfl, wf⟩ := ChangeShapes.open_int Try.underlying3 hv h
  have b : Joins.In64 n := bounds_i64 wf
  unfold Joins.In64 at b
  exact ⟨n, rfl, by omega, by omega⟩
theorem open_bool (hv : Value.okWide Try.prog w r b0 4 v) (h : DataW.Trod enc Try.prog w 0 (fun _ => true) true 4 v d ps) (_ : ∀ n ∈ d.weights Try.prog 4, n ≤ reachBytes) : Is_bool w v := by
  obtain ⟨b, rfl, _, _⟩ := RowKit.open_bool Try.underlying4 hv h
  exact ⟨b, rfl⟩
theorem open_string (hv : Value.okWide Try.prog w r b0 9 v) (h : DataW.Trod enc Try.prog w 0 (fun _ => true) true 9 v d ps) (hw : ∀ n ∈ d.weights Try.prog 9, n ≤ reachBytes) : Is_string w v := by
  obtain ⟨s, rfl, rfl, rfl, hs⟩ := Go.ChangeMaps.open_string Try.underlying9 hv h
  have := hw s.data.toList.length (by simp [DataW.weights])
  exact ⟨s, rfl, by simpa [reachBytes] using this⟩
end

/-! ### A rule -/
def Is_rule (_ : World) (v : Value) : Prop := ∃ b l, v = .agg #[.int .i64 b, .int .i64 l] ∧ I64 b ∧ I64 l
def RTwo := RCons 1 RInt (RCons 1 RInt RNil)
theorem rtwo_iff {w : World} {z : Int × Int × Unit} {cs : List Value} (h : RTwo w z cs) : cs = [.int .i64 z.1, .int .i64 z.2.1] ∧ I64 z.1 ∧ I64 z.2.1 := by
  obtain ⟨⟨h1, h2, h3⟩, ⟨h4, h5, h6⟩, h7⟩ := h
  match cs with
  | [] => simp at h1
  | [a] => simp at h4
  | a :: b :: [] => simp at h1 h4; subst h1; subst h4; exact ⟨rfl, ⟨h2, h3⟩, ⟨h5, h6⟩⟩
  | a :: b :: c :: r => simp [RNil] at h7
theorem o_rule : Opens Try.prog 23 2 RTwo := opens_struct Try.underlying23 (by kernel_rfl) (opensFields_cons rfl o_int (opensFields_cons rfl o_int opensFields_nil))
theorem open_rule {H : Type} {enc : TypeId × Value → H} {w : World} {v : Value} {d : DataW H} {ps : List MemPlace} {r : Reach} {b0 : Nat}
    (hv : Value.okWide Try.prog w r b0 23 v) (h : DataW.Trod enc Try.prog w 0 (fun _ => true) true 23 v d ps) (hw : ∀ n ∈ d.weights Try.prog 23, n ≤ reachBytes) : Is_rule w v := by
  obtain ⟨cs, rfl, hsz⟩ := okWide_struct Try.underlying23 hv
  obtain ⟨z, hz⟩ := opens_value o_rule h hw
  obtain ⟨e, h1, h2⟩ := rtwo_iff hz
  exact ⟨z.1, z.2.1, by congr 1; apply Array.toList_inj.1; simpa [Value.cells] using e, h1, h2⟩
/-! ### Cells -/
def encCell (c : Int × Int) : List Value := [.int .i64 c.1, .int .i64 c.2]
def GoodCell (c : Int × Int) : Prop := I64 c.1 ∧ I64 c.2
theorem encCell_len (c : Int × Int) : (encCell c).length = 2 := rfl
def Is_cells (w : World) (v : Value) : Prop := ∃ zs : List (Int × Int), IsSl w 2 16 v zs.length (zs.flatMap encCell) ∧ ∀ z ∈ zs, GoodCell z
theorem o_cell : Opens Try.prog 39 2 (fun w (z : Int × Int) cs => RTwo w (z.1, z.2, ()) cs) :=
  ⟨(by kernel_rfl), fun enc w fuel cs x h hw => by
    obtain ⟨hl, z, hz⟩ := (opens_struct Try.underlying39 (by kernel_rfl) (opensFields_cons rfl o_int (opensFields_cons rfl o_int opensFields_nil))).2 enc w fuel cs x h hw
    exact ⟨hl, (z.1, z.2.1), hz⟩⟩
theorem open_cells {H : Type} {enc : TypeId × Value → H} {w : World} {v : Value} {d : DataW H} {ps : List MemPlace} {r : Reach} {b0 : Nat}
    (hv : Value.okWide Try.prog w r b0 24 v) (h : DataW.Trod enc Try.prog w 0 (fun _ => true) true 24 v d ps) (hw : ∀ n ∈ d.weights Try.prog 24, n ≤ reachBytes) : Is_cells w v := by
  obtain ⟨a, len, cap, rfl⟩ := okWide_slice Try.underlying24 hv
  obtain ⟨zs, hz⟩ := opens_value (opens_slice Try.underlying24 (by kernel_rfl) (by kernel_rfl) (by omega) o_cell) h hw
  exact ⟨zs, isSl_of (k := 2) (enc := encCell) (Good := GoodCell) (by omega) encCell_len (fun w z c hc => ⟨(rtwo_iff (z := (z.1, z.2, ())) hc).1, (rtwo_iff (z := (z.1, z.2, ())) hc).2⟩) hz⟩
/-! ### Ints -/
def encInt (n : Int) : List Value := [.int .i64 n]
def Is_ints (w : World) (v : Value) : Prop := ∃ zs : List Int, IsSl w 1 8 v zs.length (zs.flatMap encInt) ∧ ∀ z ∈ zs, I64 z
theorem open_ints {H : Type} {enc : TypeId × Value → H} {w : World} {v : Value} {d : DataW H} {ps : List MemPlace} {r : Reach} {b0 : Nat}
    (hv : Value.okWide Try.prog w r b0 59 v) (h : DataW.Trod enc Try.prog w 0 (fun _ => true) true 59 v d ps) (hw : ∀ n ∈ d.weights Try.prog 59, n ≤ reachBytes) : Is_ints w v := by
  obtain ⟨a, len, cap, rfl⟩ := okWide_slice Try.underlying59 hv
  obtain ⟨zs, hz⟩ := opens_value (opens_slice Try.underlying59 (by kernel_rfl) (by kernel_rfl) (by omega) o_int) h hw
  exact ⟨zs, isSl_of (k := 1) (enc := encInt) (Good := I64) (by omega) (fun _ => rfl) (fun w z c hc => ⟨hc.1, hc.2.1, hc.2.2⟩) hz⟩
/-! ### A table of keys -/
/-- A key: its text, its name, its rights. -/
structure KeyD where
  text : ByteArray
  name : ByteArray
  rights : Int
def encKey (k : KeyD) : List Value := [.string k.text, .string k.name, .int .i64 k.rights]
def GoodKey (k : KeyD) : Prop := k.text.size ≤ 140737488351232 ∧ k.name.size ≤ 140737488351232 ∧ I64 k.rights
def Is_table (w : World) (v : Value) : Prop := ∃ (s : Int) (kv : Value) (ks : List KeyD), v = .agg #[.int .i64 s, kv] ∧ I64 s ∧ IsSl w 3 40 kv ks.length (ks.flatMap encKey) ∧ ∀ k ∈ ks, GoodKey k
/-! ### A config -/
def Is_config (w : World) (v : Value) : Prop := ∃ (room : Int) (qv : Value) (qs : List Int), v = .agg #[.int .i64 room, qv] ∧ I64 room ∧ IsSl w 1 8 qv qs.length (qs.flatMap encInt) ∧ ∀ q ∈ qs, I64 q
/-! ### Passes -/
structure PassD where
  kind : Int
  tenant : Int
  text : ByteArray
def encPass (k : PassD) : List Value := [.int .i64 k.kind, .int .i64 k.tenant, .string k.text]
def GoodPass (k : PassD) : Prop := I64 k.kind ∧ I64 k.tenant ∧ k.text.size ≤ 140737488351232
def Is_passes (w : World) (v : Value) : Prop := ∃ ks : List PassD, IsSl w 3 32 v ks.length (ks.flatMap encPass) ∧ ∀ k ∈ ks, GoodPass k
end Go.Proofs.Ytabhpbkkjijfjaa
namespace Go.Proofs.Ytabhpbkkjijfjaa
set_option maxRecDepth 100000
section
variable {P : Program} {ops : Array Oper} {Q : Exit → Act → World → Prop} {md : Region.Mode} {S : Array Bool → World → Prop}

theorem vac {X : Bool} {p : Prop} (t : X = true) : X = false → p := fun h => by rw [t] at h; cases h
/-- What has come up has come up behind all that it waits for. -/
def Closed (md : Region.Mode) (ops : Array Oper) (l : Array Bool) : Prop :=
  ∀ j o, ops[j]? = some o → l.getD j false = true → ∀ e ∈ o.after, Region.binds md e = true → l.getD e.on false = true
theorem closed_none (n : Nat) : Closed md ops (Array.replicate n false) := by
  intro j o _ h
  exfalso
  rcases Nat.lt_or_ge j n with h' | h' <;> simp [h'] at h
theorem closed_set {l : Array Bool} {i : Nat} (h : Closed md ops l) (hi : i ∈ Region.ready md ops l) : Closed md ops (l.setIfInBounds i true) := by
  intro j o ho hj e he hb
  obtain ⟨_, o', ho', hall⟩ := mem_ready.1 hi
  by_cases hij : i = j
  · subst hij
    rw [ho] at ho'
    obtain rfl := Option.some.inj ho'
    exact getD_set_true (hall e he hb)
  · rw [getD_set_ne false hij] at hj
    exact getD_set_true (h j o ho hj e he hb)
/-- Who waits for one that is pending is pending. -/
theorem closed_pending {l : Array Bool} {i s : Nat} (h : Closed md ops l) (hi : l.getD i true = false) (hs : ((ops[s]?).map fun o => o.after.any fun e => Region.binds md e && e.on == i) = some true) : l.getD s false = false := by
  cases hh : l.getD s false with
  | false => rfl
  | true =>
    exfalso
    cases ho : ops[s]? with
    | none => rw [ho] at hs; simp at hs
    | some o =>
      rw [ho] at hs
      simp only [Option.map_some, Option.some.injEq, Array.any_eq_true] at hs
      obtain ⟨k, hk, hb⟩ := hs
      simp only [Bool.and_eq_true, beq_iff_eq] at hb
      have := h s o ho hh o.after[k] (by simp) hb.1
      rw [hb.2] at this
      rcases Nat.lt_or_ge i l.size with h' | h'
      · simp [h'] at hi this; rw [hi] at this; cases this
      · simp [Array.getElem?_eq_none h'] at hi

/-- The worlds in which operation i may come up. -/
def Pend (md : Region.Mode) (ops : Array Oper) (S : Array Bool → World → Prop) (i : Nat) (w : World) : Prop := ∃ l, Closed md ops l ∧ l.getD i true = false ∧ S l w

def wpAnyT (P : Program) (md : Region.Mode) (ops : Array Oper) (Q : Exit → Act → World → Prop) (S : Array Bool → World → Prop) : Nat → Array Bool → Act → World → Prop
  | 0, listed, a, w => Region.ready md ops listed = [] ∧ Q .normal a w
  | fuel + 1, listed, a, w =>
    (Region.ready md ops listed = [] → Q .normal a w) ∧
    ∀ i ∈ Region.ready md ops listed, wpOp P ops Q i (fun a' w' => S (listed.setIfInBounds i true) w' ∧ wpAnyT P md ops Q S fuel (listed.setIfInBounds i true) a' w') a w
theorem wpAny_of_stage : ∀ (fuel : Nat) (listed : Array Bool) (a : Act) (w : World), wpAnyT P md ops Q S fuel listed a w → wpAny P md ops Q fuel listed a w
  | 0, _, _, _, h => h
  | fuel + 1, _, _, _, h => ⟨h.1, fun i hi => wpOp_mono (fun a' w' h' => wpAny_of_stage fuel _ a' w' h'.2) (h.2 i hi)⟩

theorem wpAnyT_first {i : Nat} {oi : Oper} {v : Value} (hi : ops[i]? = some oi) (hsel : ∀ (j : Nat) (o : Oper) cs b, ops[j]? = some o → o.op ≠ .select cs b)
    (hQ : ∀ c a w, Q (.panic c) (a.put oi.dst v) w → Q (.panic c) a w) (hins : ∀ l w, S (l.setIfInBounds i true) w ↔ S l w) :
    ∀ (fuel : Nat) (listed : Array Bool) (a : Act) (w : World),
      (∀ j oj, ops[j]? = some oj → j ≠ i → listed.getD j true = false → (∀ e ∈ oj.after, Region.binds md e = true → e.on ≠ i) → oi.apart ops oj = true) →
      i ∈ Region.ready md ops listed → YieldsIf P ops (Pend md ops S i) oi v a → Closed md ops listed → S listed w →
      wpAnyT P md ops Q S fuel (listed.setIfInBounds i true) (a.put oi.dst v) w → wpAnyT P md ops Q S (fuel + 1) listed a w := by
  intro fuel
  induction fuel with
  | zero =>
    intro listed a w _ hr hy hC hS H
    have hp : Pend md ops S i w := ⟨listed, hC, (mem_ready.1 hr).1, hS⟩
    refine ⟨fun h => (by rw [h] at hr; cases hr), fun j hj => ?_⟩
    by_cases hji : j = i
    · subst hji; exact hy.wpOp hi hp ⟨(hins _ _).2 hS, H⟩
    · have := ready_mono hj hji
      rw [H.1] at this
      cases this
  | succ fuel ih =>
    intro listed a w hfree hr hy hC hS H
    have hp : Pend md ops S i w := ⟨listed, hC, (mem_ready.1 hr).1, hS⟩
    refine ⟨fun h => (by rw [h] at hr; cases hr), fun j hj => ?_⟩
    by_cases hji : j = i
    · subst hji; exact hy.wpOp hi hp ⟨(hins _ _).2 hS, H⟩
    · have h1 := H.2 j (ready_mono hj hji)
      obtain ⟨hjun, oj, hoj, hall⟩ := mem_ready.1 hj
      have hnot : ∀ e ∈ oj.after, Region.binds md e = true → e.on ≠ i := fun e he hb heq => by
        have h1 := hall e he hb
        have h0 := (mem_ready.1 hr).1
        rw [heq] at h1
        rcases Nat.lt_or_ge i listed.size with h' | h'
        · simp [h'] at h0 h1; rw [h0] at h1; cases h1
        · simp [Array.getElem?_eq_none h'] at h1
      have h2 := wpOp_putIf hoj (hfree j oj hoj hji hjun hnot) (fun cs b => hsel i oi cs b hi) (fun cs b => hsel j oj cs b hoj) hQ hy h1
      have hfree' : ∀ k ok, ops[k]? = some ok → k ≠ i → (listed.setIfInBounds j true).getD k true = false →
          (∀ e ∈ ok.after, Region.binds md e = true → e.on ≠ i) → oi.apart ops ok = true := fun k ok hk hki hun hno => by
        refine hfree k ok hk hki ?_ hno
        by_cases hjk : j = k
        · subst hjk; exact hjun
        · rw [getD_set_ne true hjk] at hun; exact hun
      refine wpOp_mono (fun a' w' h3 => ?_) h2
      obtain ⟨h31, h32, h33⟩ := h3
      rw [Array.setIfInBounds_comm _ _ (Ne.symm hji)] at h32 h33
      have hS' := (hins _ _).1 h32
      exact ⟨hS', ih (listed.setIfInBounds j true) a' w' hfree' (ready_mono hr (Ne.symm hji)) h31 (closed_set hC hj) hS' h33⟩

def closedB (md : Region.Mode) (ops : Array Oper) (l : Array Bool) : Bool :=
  (List.range ops.size).all fun j => !l.getD j false || ((ops[j]?).map fun o => o.after.toList.all fun e => !Region.binds md e || l.getD e.on false).getD true
theorem closed_of {l : Array Bool} (h : closedB md ops l = true) : Closed md ops l := by
  intro j o ho hj e he hb
  have hlt : j < ops.size := (Array.getElem?_eq_some_iff.1 ho).1
  have h1 := List.all_eq_true.1 h j (by simpa using hlt)
  rw [hj, ho] at h1
  simp only [Bool.not_true, Bool.false_or, Option.map_some, Option.getD_some, List.all_eq_true, Bool.or_eq_true, Bool.not_eq_true'] at h1
  exact (h1 e (by simpa using he)).resolve_left (by simp [hb])

/-- Take number i first. -/
theorem wpAnyT_take {i : Nat} {oi : Oper} {v : Value} {fuel : Nat} {listed : Array Bool} {a : Act} {w : World} (hi : ops[i]? = some oi)
    (hs : Region.noSelect ops = true) (hf : Region.free md ops listed i = true) (hr : (Region.ready md ops listed).contains i = true)
    (hQ : ∀ c a w, Q (.panic c) (a.put oi.dst v) w → Q (.panic c) a w) (hins : ∀ l w, S (l.setIfInBounds i true) w ↔ S l w) (hC : closedB md ops listed = true) (hS : RowKit.Hid (S listed w)) (hy : YieldsIf P ops (Pend md ops S i) oi v a)
    (h : RowKit.Hid (S (listed.setIfInBounds i true) w) → wpAnyT P md ops Q S fuel (listed.setIfInBounds i true) (a.put oi.dst v) w) : wpAnyT P md ops Q S (fuel + 1) listed a w :=
  wpAnyT_first hi (Region.noSelect_spec hs) hQ hins fuel listed a w (Region.free_spec hi hf) (by simpa using hr) hy (closed_of hC) hS.out (h (Lib.hid ((hins _ _).2 hS.out)))
/-- The one that may come up comes up. -/
theorem wpAnyT_one {i : Nat} {oi : Oper} {fuel : Nat} {listed : Array Bool} {a : Act} {w : World} (hi : ops[i]? = some oi) (hg : oi.guard = none) (hr : Region.ready md ops listed = [i])
    (h : ∀ K : Act → World → Prop, (∀ a' w', S (listed.setIfInBounds i true) w' → (RowKit.Hid (S (listed.setIfInBounds i true) w') → wpAnyT P md ops Q S fuel (listed.setIfInBounds i true) a' w') → K a' w') → oi.wp P a w K Q) : wpAnyT P md ops Q S (fuel + 1) listed a w :=
  ⟨(fun h0 => by rw [hr] at h0; cases h0), fun j hj => by
    rw [hr] at hj
    obtain rfl : j = i := by simpa using hj
    unfold wpOp
    simp only [hi, Region.wanted, hg, if_true]
    exact .inl (h _ fun a' w' hs hk => ⟨hs, hk (Lib.hid hs)⟩)⟩
theorem wpAnyT_done {listed : Array Bool} {a : Act} {w : World} (hr : Region.ready md ops listed = []) (h : Q .normal a w) :
    ∀ fuel, wpAnyT P md ops Q S fuel listed a w
  | 0 => ⟨hr, h⟩
  | _ + 1 => ⟨fun _ => h, by rw [hr]; simp⟩
theorem wp_region_stage {id : Nat} {a : Act} {w : World} {l : List Oper} (hm : P.follows .mixedOrders = true) (S : Array Bool → World → Prop) (h0 : S (Array.replicate l.length false) w.drew)
    (h : RowKit.Hid (S (Array.replicate l.length false) w.drew) → wpAnyT P .any l.toArray Q S l.length (Array.replicate l.length false) a w.drew) : (Code.region id l.toArray true).wp P Q a w :=
  wp_region_any hm (by simpa using wpAny_of_stage _ _ _ _ (h (Lib.hid h0)))
end
end Go.Proofs.Ytabhpbkkjijfjaa
