/-
  What the arguments of the laws read as, a predicate for each type, over this seat's numbers.
-/
import Derived.Test.YtabhpbkkjijfjaaGreatDoorBase
import Derived.Deep.AppendLies
namespace Go.Proofs.YtabhpbkkjijfjaaGreatDoor
set_option maxRecDepth 100000
open Go.RowKit Go.ChangeShapes Go.WideShapes
open Go.ChangeMaps (open_string shut_string)

/-- The cells fl lie in block b from o on. -/
def RowAt (w : World) (b o : Nat) (fl : List Value) : Prop := ∀ j u, fl[j]? = some u → w.cell? ⟨b, o + j, none⟩ = some u
/-- A slice of n elements, k cells and so many bytes each, whose cells are fl: its address, its room. -/
structure Sl (w : World) (k bytes : Nat) (a : Option Addr) (n cap : Nat) (fl : List Value) : Prop where
  len : fl.length = n * k
  room : n ≤ cap
  fits : cap ≤ maxLen
  nil : a = none → cap = 0
  wide : n * bytes ≤ 140737488351232
  row : 0 < n → ∃ b o, a = some ⟨b, o, none⟩ ∧ RowAt w b o fl
def IsSl (w : World) (k bytes : Nat) (v : Value) (n : Nat) (fl : List Value) : Prop := ∃ a cap, v = .slice a n cap ∧ Sl w k bytes a n cap fl

theorem RowAt.below {w w' : World} {b o B : Nat} {fl : List Value} (h : RowAt w b o fl) (hb : Below B w w') (hB : b < B) : RowAt w' b o fl := fun j u hu => by
  rw [hb.cell hB]; exact h j u hu
theorem RowAt.lt {w : World} {b o : Nat} {fl : List Value} (h : RowAt w b o fl) (hp : 0 < fl.length) : b < w.heap.size := by
  match fl, hp with
  | u :: r, _ => exact World.block_lt_of_cell? w _ (h 0 u rfl)
/-- The block of a slice that is not empty is there. -/
theorem Sl.lt {w : World} {k bytes n cap : Nat} {b o : Nat} {fl : List Value} (h : Sl w k bytes (some ⟨b, o, none⟩) n cap fl) (hn : 0 < n) (hk : 0 < k) : b < w.heap.size := by
  obtain ⟨b', o', e, hr⟩ := h.row hn
  simp only [Option.some.injEq, Addr.mk.injEq, and_true] at e
  obtain ⟨rfl, rfl⟩ := e
  exact hr.lt (by rw [h.len]; exact Nat.mul_pos hn hk)
theorem Sl.below {w w' : World} {k bytes n cap : Nat} {a : Option Addr} {fl : List Value} (h : Sl w k bytes a n cap fl) (hk : 0 < k) (hb : Below w.heap.size w w') : Sl w' k bytes a n cap fl :=
  ⟨h.len, h.room, h.fits, h.nil, h.wide, fun hn => by
    obtain ⟨b, o, e, hr⟩ := h.row hn
    exact ⟨b, o, e, hr.below hb (hr.lt (by rw [h.len]; exact Nat.mul_pos hn hk))⟩⟩
theorem Sl.grow {w : World} {k bytes n cap : Nat} {a : Option Addr} {fl : List Value} (h : Sl w k bytes a n cap fl) (hk : 0 < k) (x : Grow w) : Sl x.val k bytes a n cap fl := h.below hk x.below
theorem Sl.news {w : World} {k bytes n cap : Nat} {ad : Addr} {fl : List Value} (h : Sl w k bytes (some ad) n cap fl) : ∀ j u, fl[j]? = some u → w.cell? (ad.add j) = some u := by
  intro j u hu
  have hj := (List.getElem?_eq_some_iff.1 hu).1
  have hn : 0 < n := by
    rcases Nat.eq_zero_or_pos n with h0 | h0
    · have := h.len; rw [h0, Nat.zero_mul] at this; omega
    · exact h0
  obtain ⟨b, o, e, hr⟩ := h.row hn
  simp only [Option.some.injEq] at e
  subst e
  rw [Addr.add_lit]; exact hr j u hu
/-- What the call owns reads as a slice. -/
theorem sl_of_own {w : World} {base : Nat} {e : TypeId} {k bytes n : Nat} {v : Value} {fl : List Value} (h : w.ownsRow base e k v n fl) (hb : n * bytes ≤ 140737488351232) : IsSl w k bytes v n fl := by
  rcases h.2 with ⟨rfl, rfl⟩ | ⟨g, cap, cur, rfl, _, hg, hc, hm, hs, ht⟩
  · exact ⟨none, 0, rfl, h.1, Nat.le_refl _, by simp [maxLen], fun _ => rfl, hb, fun hp => by omega⟩
  · refine ⟨_, cap, rfl, h.1, hc, hm, (fun h => by cases h), hb, fun hp => ⟨g, 0, rfl, fun j u hu => ?_⟩⟩
    have := h.cells (g := g) rfl j u hu
    rwa [Addr.add_lit] at this
theorem flat_length {α : Type} {k : Nat} {enc : α → List Value} (he : ∀ z, (enc z).length = k) : ∀ zs : List α, (zs.flatMap enc).length = zs.length * k
  | [] => by simp
  | z :: zs => by simp [flat_length he zs, he, Nat.add_mul]; omega
theorem flat_get {α : Type} {k : Nat} {enc : α → List Value} (hk : 0 < k) (he : ∀ z, (enc z).length = k) : ∀ (zs : List α) (q : Nat) (u : Value), (zs.flatMap enc)[q]? = some u → ∃ z, zs[q / k]? = some z ∧ (enc z)[q % k]? = some u
  | [], q, u, h => by simp at h
  | z :: zs, q, u, h => by
    rw [List.flatMap_cons] at h
    by_cases hq : q < k
    · rw [List.getElem?_append_left (by rw [he]; exact hq)] at h
      exact ⟨z, by simp [Nat.div_eq_of_lt hq], by rw [Nat.mod_eq_of_lt hq]; exact h⟩
    · rw [List.getElem?_append_right (by rw [he]; omega), he] at h
      obtain ⟨z', h1, h2⟩ := flat_get hk he zs (q - k) u h
      have hq' : k ≤ q := by omega
      rw [Nat.div_eq_sub_div hk hq', Nat.mod_eq_sub_mod hq']
      exact ⟨z', by simpa using h1, h2⟩
theorem flat_at {α : Type} {k : Nat} {enc : α → List Value} (hk : 0 < k) (he : ∀ z, (enc z).length = k) : ∀ (zs : List α) (i j : Nat) (z : α), zs[i]? = some z → j < k → (zs.flatMap enc)[i * k + j]? = (enc z)[j]?
  | [], i, j, z, h, _ => by simp at h
  | y :: zs, 0, j, z, h, hj => by
    simp only [List.getElem?_cons_zero, Option.some.injEq] at h
    subst h
    rw [List.flatMap_cons, Nat.zero_mul, Nat.zero_add, List.getElem?_append_left (by rw [he]; exact hj)]
  | y :: zs, i + 1, j, z, h, hj => by
    rw [List.flatMap_cons, List.getElem?_append_right (by rw [he, Nat.add_mul]; omega), he]
    have e : (i + 1) * k + j - k = i * k + j := by rw [Nat.add_mul]; omega
    rw [e]
    exact flat_at hk he zs i j z (by simpa using h) hj

theorem isSl_of {α : Type} {k bytes : Nat} {enc : α → List Value} {Good : α → Prop} {R : World → α → List Value → Prop} (hk : 0 < k) (he : ∀ z, (enc z).length = k) (hR : ∀ w z c, R w z c → c = enc z ∧ Good z)
    {w : World} {zs : List α} {v : Value} (h : RSlice k bytes R w zs [v]) : IsSl w k bytes v zs.length (zs.flatMap enc) ∧ ∀ z ∈ zs, Good z := by
  obtain ⟨a, cap, hv, hl, hm, hb, hn, hx⟩ := h
  simp only [List.cons.injEq, and_true] at hv
  subst hv
  refine ⟨⟨a, cap, rfl, flat_length he zs, hl, hm, hn, Nat.le_trans (Nat.mul_le_mul_right _ hl) hb, fun hp => ?_⟩, fun z hz => ?_⟩
  · match zs, hp, hx with
    | y :: ys, _, hx =>
      obtain ⟨b, o, c, rfl, _, _, _⟩ := hx 0 y rfl
      refine ⟨b, o, rfl, fun j u hu => ?_⟩
      obtain ⟨z, h1, h2⟩ := flat_get hk he _ j u hu
      obtain ⟨b', o', c, hbo, hr, hlen, hc⟩ := hx (j / k) z h1
      simp only [Option.some.injEq, Addr.mk.injEq, and_true] at hbo
      obtain ⟨rfl, rfl⟩ := hbo
      obtain ⟨rfl, _⟩ := hR w z c hr
      have := hc (j % k) u h2
      have e : o + j / k * k + j % k = o + j := by have := Nat.div_add_mod j k; rw [Nat.mul_comm] at this; omega
      rw [e] at this
      exact this
  · obtain ⟨i, hi, rfl⟩ := List.getElem_of_mem hz
    obtain ⟨b, o, c, _, hr, _⟩ := hx i _ (List.getElem?_eq_getElem hi)
    exact (hR w _ c hr).2

/-! ### Blocks that stay -/
theorem blk_alloc {w : World} {k : Nat} {o : Obj} (h : w.heap[k]? = some o) (x : Obj) : (w.alloc x).heap[k]? = some o := by
  rw [Below.heap_alloc _ _ _ (lt_of_block h)]; exact h
theorem blk_grown {w w' : World} {k : Nat} {o : Obj} {row : Option Nat} (hg : w.grownBy w' row) (h : w.heap[k]? = some o) (hne : some k ≠ row) : w'.heap[k]? = some o := by
  rw [hg.block k (lt_of_block h) hne]; exact h
theorem blk_set {w : World} {k : Nat} {o : Obj} {a : Addr} (h : w.heap[k]? = some o) (hne : k ≠ a.block) (v : Value) : (w.setCell a v).heap[k]? = some o := by
  rw [Below.heap_setCell _ _ _ _ hne]; exact h
theorem own_ne {w : World} {base : Nat} {e : TypeId} {size : Nat} {v : Value} {n : Nat} {xs : List Value} (h : w.ownsRow base e size v n xs) {k : Nat} (hk : k < base) : some k ≠ v.ownBlock := by
  intro hh
  have := (h.lt k hh.symm).1
  omega
theorem own_form {w : World} {base : Nat} {e : TypeId} {size : Nat} {v : Value} {n : Nat} {xs : List Value} (h : w.ownsRow base e size v n xs) : ∃ a c, v = .slice a n c := by
  rcases Joins.ownsRow_forms h with ⟨h, h0⟩ | ⟨g, c, h⟩
  · exact ⟨none, 0, by rw [h, h0]⟩
  · exact ⟨_, _, h⟩
theorem blk_last (w : World) (o : Obj) {n : Nat} (hn : n = w.heap.size) : (w.alloc o).heap[n]? = some o := by subst hn; exact heap_alloc_new w o
theorem news_alloc (w : World) (l : List Value) (t : TypeId) {n : Nat} (hn : n = w.heap.size) : ∀ j u, l[j]? = some u → (w.alloc (.cells l.toArray t)).cell? ((⟨n, 0, none⟩ : Addr).add j) = some u := by
  intro j u hj
  rw [Addr.add_lit, Nat.zero_add, Joins.cell_of_block (blk_last w _ hn)]
  simpa using hj

def I64 (n : Int) : Prop := -9223372036854775808 ≤ n ∧ n ≤ 9223372036854775807

/-! ### Plain ones -/
def Is_int (_ : World) (v : Value) : Prop := ∃ n, v = .int .i64 n ∧ I64 n
def Is_bool (_ : World) (v : Value) : Prop := ∃ b, v = .bool b
def Is_string (_ : World) (v : Value) : Prop := ∃ s : ByteArray, v = .string s ∧ s.size ≤ 140737488351232
theorem o_int : Opens Tryz.prog 3 1 RInt := opens_int Tryz.underlying3 (by kernel_rfl)
theorem o_bool : Opens Tryz.prog 4 1 RBool := opens_bool Tryz.underlying4 (by kernel_rfl)
theorem o_string : Opens Tryz.prog 9 1 RStr := opens_string Tryz.underlying9 (by kernel_rfl)
section
variable {H : Type} {enc : TypeId × Value → H} {w : World} {v : Value} {d : DataW H} {ps : List MemPlace} {r : Reach} {b0 : Nat}
theorem open_int (hv : Value.okWide Tryz.prog w r b0 3 v) (h : DataW.Trod enc Tryz.prog w 0 (fun _ => true) true 3 v d ps) (_ : ∀ n ∈ d.weights Tryz.prog 3, n ≤ reachBytes) : Is_int w v := by
  obtain ⟨n, rfl, rfl, rfl, wf⟩ := ChangeShapes.open_int Tryz.underlying3 hv h
  have b : Joins.In64 n := bounds_i64 wf
  unfold Joins.In64 at b
  exact ⟨n, rfl, by omega, by omega⟩
theorem open_bool (hv : Value.okWide Tryz.prog w r b0 4 v) (h : DataW.Trod enc Tryz.prog w 0 (fun _ => true) true 4 v d ps) (_ : ∀ n ∈ d.weights Tryz.prog 4, n ≤ reachBytes) : Is_bool w v := by
  obtain ⟨b, rfl, _, _⟩ := RowKit.open_bool Tryz.underlying4 hv h
  exact ⟨b, rfl⟩
theorem open_string (hv : Value.okWide Tryz.prog w r b0 9 v) (h : DataW.Trod enc Tryz.prog w 0 (fun _ => true) true 9 v d ps) (hw : ∀ n ∈ d.weights Tryz.prog 9, n ≤ reachBytes) : Is_string w v := by
  obtain ⟨s, rfl, rfl, rfl, hs⟩ := Go.ChangeMaps.open_string Tryz.underlying9 hv h
  have := hw s.data.toList.length (by simp [DataW.weights])
  exact ⟨s, rfl, by simpa [reachBytes] using this⟩
end

/-! ### A rule -/
def Is_rule (_ : World) (v : Value) : Prop := ∃ b l, v = .agg #[.int .i64 b, .int .i64 l] ∧ I64 b ∧ I64 l
def RTwo := RCons 1 RInt (RCons 1 RInt RNil)
theorem rtwo_iff {w : World} {z : Int × Int × Unit} {cs : List Value} (h : RTwo w z cs) : cs = [.int .i64 z.1, .int .i64 z.2.1] ∧ I64 z.1 ∧ I64 z.2.1 := by
  obtain ⟨⟨h1, h2, h3⟩, ⟨h4, h5, h6⟩, h7⟩ := h
  match cs with
  | [] => simp at h1
  | [a] => simp at h4
  | a :: b :: [] => simp at h1 h4; subst h1; subst h4; exact ⟨rfl, ⟨h2, h3⟩, ⟨h5, h6⟩⟩
  | a :: b :: c :: r => simp [RNil] at h7
theorem o_rule : Opens Tryz.prog 100 2 RTwo := opens_struct Tryz.underlying100 (by kernel_rfl) (opensFields_cons rfl o_int (opensFields_cons rfl o_int opensFields_nil))
theorem open_rule {H : Type} {enc : TypeId × Value → H} {w : World} {v : Value} {d : DataW H} {ps : List MemPlace} {r : Reach} {b0 : Nat}
    (hv : Value.okWide Tryz.prog w r b0 100 v) (h : DataW.Trod enc Tryz.prog w 0 (fun _ => true) true 100 v d ps) (hw : ∀ n ∈ d.weights Tryz.prog 100, n ≤ reachBytes) : Is_rule w v := by
  obtain ⟨cs, rfl, hsz⟩ := okWide_struct Tryz.underlying100 hv
  obtain ⟨z, hz⟩ := opens_value o_rule h hw
  obtain ⟨e, h1, h2⟩ := rtwo_iff hz
  exact ⟨z.1, z.2.1, by congr 1; apply Array.toList_inj.1; simpa [Value.cells] using e, h1, h2⟩
/-! ### Cells -/
def encCell (c : Int × Int) : List Value := [.int .i64 c.1, .int .i64 c.2]
def GoodCell (c : Int × Int) : Prop := I64 c.1 ∧ I64 c.2
theorem encCell_len (c : Int × Int) : (encCell c).length = 2 := rfl
def Is_cells (w : World) (v : Value) : Prop := ∃ zs : List (Int × Int), IsSl w 2 16 v zs.length (zs.flatMap encCell) ∧ ∀ z ∈ zs, GoodCell z
theorem o_cell : Opens Tryz.prog 145 2 (fun w (z : Int × Int) cs => RTwo w (z.1, z.2, ()) cs) :=
  ⟨(by kernel_rfl), fun enc w fuel cs x h hw => by
    obtain ⟨hl, z, hz⟩ := (opens_struct Tryz.underlying145 (by kernel_rfl) (opensFields_cons rfl o_int (opensFields_cons rfl o_int opensFields_nil))).2 enc w fuel cs x h hw
    exact ⟨hl, (z.1, z.2.1), hz⟩⟩
theorem open_cells {H : Type} {enc : TypeId × Value → H} {w : World} {v : Value} {d : DataW H} {ps : List MemPlace} {r : Reach} {b0 : Nat}
    (hv : Value.okWide Tryz.prog w r b0 101 v) (h : DataW.Trod enc Tryz.prog w 0 (fun _ => true) true 101 v d ps) (hw : ∀ n ∈ d.weights Tryz.prog 101, n ≤ reachBytes) : Is_cells w v := by
  obtain ⟨a, len, cap, rfl⟩ := okWide_slice Tryz.underlying101 hv
  obtain ⟨zs, hz⟩ := opens_value (opens_slice Tryz.underlying101 (by kernel_rfl) (by kernel_rfl) (by omega) o_cell) h hw
  exact ⟨zs, isSl_of (k := 2) (enc := encCell) (Good := GoodCell) (by omega) encCell_len (fun w z c hc => ⟨(rtwo_iff (z := (z.1, z.2, ())) hc).1, (rtwo_iff (z := (z.1, z.2, ())) hc).2⟩) hz⟩
/-! ### Ints -/
def encInt (n : Int) : List Value := [.int .i64 n]
def Is_ints (w : World) (v : Value) : Prop := ∃ zs : List Int, IsSl w 1 8 v zs.length (zs.flatMap encInt) ∧ ∀ z ∈ zs, I64 z
theorem open_ints {H : Type} {enc : TypeId × Value → H} {w : World} {v : Value} {d : DataW H} {ps : List MemPlace} {r : Reach} {b0 : Nat}
    (hv : Value.okWide Tryz.prog w r b0 23 v) (h : DataW.Trod enc Tryz.prog w 0 (fun _ => true) true 23 v d ps) (hw : ∀ n ∈ d.weights Tryz.prog 23, n ≤ reachBytes) : Is_ints w v := by
  obtain ⟨a, len, cap, rfl⟩ := okWide_slice Tryz.underlying23 hv
  obtain ⟨zs, hz⟩ := opens_value (opens_slice Tryz.underlying23 (by kernel_rfl) (by kernel_rfl) (by omega) o_int) h hw
  exact ⟨zs, isSl_of (k := 1) (enc := encInt) (Good := I64) (by omega) (fun _ => rfl) (fun w z c hc => ⟨hc.1, hc.2.1, hc.2.2⟩) hz⟩
/-! ### A table of keys -/
/-- A key: its text, its name, its rights. -/
structure KeyD where
  text : ByteArray
  name : ByteArray
  rights : Int
def encKey (k : KeyD) : List Value := [.string k.text, .string k.name, .int .i64 k.rights]
def GoodKey (k : KeyD) : Prop := k.text.size ≤ 140737488351232 ∧ k.name.size ≤ 140737488351232 ∧ I64 k.rights
def Is_table (w : World) (v : Value) : Prop := ∃ (s : Int) (kv : Value) (ks : List KeyD), v = .agg #[.int .i64 s, kv] ∧ I64 s ∧ IsSl w 3 40 kv ks.length (ks.flatMap encKey) ∧ ∀ k ∈ ks, GoodKey k
def RKey (w : World) (k : KeyD) (cs : List Value) : Prop := RCons 1 RStr (RCons 1 RStr (RCons 1 RInt RNil)) w (k.text, k.name, k.rights, ()) cs
theorem rkey_iff {w : World} {k : KeyD} {cs : List Value} (h : RKey w k cs) : cs = encKey k ∧ GoodKey k := by
  obtain ⟨⟨h1, h2⟩, ⟨h4, h5⟩, ⟨h7, h8, h9⟩, h10⟩ := h
  match cs with
  | [] => simp at h1
  | [a] => simp at h4
  | [a, b] => simp at h7
  | a :: b :: c :: [] => simp at h1 h4 h7; subst h1; subst h4; subst h7; exact ⟨rfl, h2, h5, h8, h9⟩
  | a :: b :: c :: d :: r => simp [RNil] at h10
theorem o_key : Opens Tryz.prog 234 3 RKey :=
  ⟨(by kernel_rfl), fun enc w fuel cs x h hw => by
    obtain ⟨hl, z, hz⟩ := (opens_struct Tryz.underlying234 (by kernel_rfl) (opensFields_cons rfl o_string (opensFields_cons rfl o_string (opensFields_cons rfl o_int opensFields_nil)))).2 enc w fuel cs x h hw
    exact ⟨hl, ⟨z.1, z.2.1, z.2.2.1⟩, hz⟩⟩
theorem o_keys : Opens Tryz.prog 91 1 (RSlice 3 40 RKey) := opens_slice Tryz.underlying91 (by kernel_rfl) (by kernel_rfl) (by omega) o_key
theorem open_table {H : Type} {enc : TypeId × Value → H} {w : World} {v : Value} {d : DataW H} {ps : List MemPlace} {r : Reach} {b0 : Nat}
    (hv : Value.okWide Tryz.prog w r b0 93 v) (h : DataW.Trod enc Tryz.prog w 0 (fun _ => true) true 93 v d ps) (hw : ∀ n ∈ d.weights Tryz.prog 93, n ≤ reachBytes) : Is_table w v := by
  obtain ⟨cs, rfl, hsz⟩ := okWide_struct Tryz.underlying93 hv
  obtain ⟨z, ⟨h1, h2, h3⟩, h4, h5⟩ := opens_value (opens_struct Tryz.underlying93 (k := 2) (by kernel_rfl) (opensFields_cons rfl o_int (opensFields_cons rfl o_keys opensFields_nil))) h hw
  simp only [Value.cells] at h1 h4 h5
  obtain ⟨l⟩ := cs
  rcases l with _ | ⟨a, _ | ⟨b, _ | ⟨c, r⟩⟩⟩
  · simp at h1
  · obtain ⟨_, _, h, _⟩ := h4; simp at h
  rotate_left
  · simp [RNil] at h5
  · simp at h1 h4
    subst h1
    obtain ⟨g1, g2⟩ := isSl_of (k := 3) (enc := encKey) (Good := GoodKey) (by omega) (fun _ => rfl) (fun w z c hc => rkey_iff hc) h4
    exact ⟨_, b, _, rfl, ⟨h2, h3⟩, g1, g2⟩
/-! ### A config -/
def Is_config (w : World) (v : Value) : Prop := ∃ (room : Int) (qv : Value) (qs : List Int), v = .agg #[.int .i64 room, qv] ∧ I64 room ∧ IsSl w 1 8 qv qs.length (qs.flatMap encInt) ∧ ∀ q ∈ qs, I64 q
theorem open_config {H : Type} {enc : TypeId × Value → H} {w : World} {v : Value} {d : DataW H} {ps : List MemPlace} {r : Reach} {b0 : Nat}
    (hv : Value.okWide Tryz.prog w r b0 25 v) (h : DataW.Trod enc Tryz.prog w 0 (fun _ => true) true 25 v d ps) (hw : ∀ n ∈ d.weights Tryz.prog 25, n ≤ reachBytes) : Is_config w v := by
  obtain ⟨cs, rfl, hsz⟩ := okWide_struct Tryz.underlying25 hv
  obtain ⟨z, ⟨h1, h2, h3⟩, h4, h5⟩ := opens_value (opens_struct Tryz.underlying25 (k := 2) (by kernel_rfl) (opensFields_cons rfl o_int (opensFields_cons rfl (opens_slice Tryz.underlying23 (by kernel_rfl) (by kernel_rfl) (by omega) o_int) opensFields_nil))) h hw
  simp only [Value.cells] at h1 h4 h5
  obtain ⟨l⟩ := cs
  rcases l with _ | ⟨a, _ | ⟨b, _ | ⟨c, r⟩⟩⟩
  · simp at h1
  · obtain ⟨_, _, h, _⟩ := h4; simp at h
  rotate_left
  · simp [RNil] at h5
  · simp at h1 h4
    subst h1
    obtain ⟨g1, g2⟩ := isSl_of (k := 1) (enc := encInt) (Good := I64) (by omega) (fun _ => rfl) (fun w z c hc => ⟨hc.1, hc.2.1, hc.2.2⟩) h4
    exact ⟨_, b, _, rfl, ⟨h2, h3⟩, g1, g2⟩
/-! ### Passes -/
structure PassD where
  kind : Int
  tenant : Int
  text : ByteArray
def encPass (k : PassD) : List Value := [.int .i64 k.kind, .int .i64 k.tenant, .string k.text]
def GoodPass (k : PassD) : Prop := I64 k.kind ∧ I64 k.tenant ∧ k.text.size ≤ 140737488351232
def Is_passes (w : World) (v : Value) : Prop := ∃ ks : List PassD, IsSl w 3 32 v ks.length (ks.flatMap encPass) ∧ ∀ k ∈ ks, GoodPass k
end Go.Proofs.YtabhpbkkjijfjaaGreatDoor
