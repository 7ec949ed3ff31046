/-
  arena.take: the least number that is free.
-/
import Derived.Test.YtabhpbkkjijfjaaGreatDoorZHouseLogsHeapPop
namespace Go.Proofs.YtabhpbkkjijfjaaGreatDoor
set_option maxRecDepth 100000
open Go.RowKit

theorem rows_apart {w : World} {e e' : TypeId} {k k' n n' : Nat} {v v' : Value} {xs xs' : List Value} (h : Row w e k v n xs) (h' : Row w e' k' v' n' xs') (he : e ≠ e') {q : Nat} (hq : v.ownBlock = some q) : v'.ownBlock ≠ some q := by
  intro h2
  obtain ⟨cur, h3⟩ := h.typed q hq
  obtain ⟨cur', h4⟩ := h'.typed q h2
  rw [h3] at h4
  simp only [Option.some.injEq, Obj.cells.injEq] at h4
  exact he h4.2.1
theorem map_apart {α : Type} {key : α → Value} {Good : α → Prop} {w : World} {bm m : Nat} {f : α → Option Value} {e : TypeId} {k n : Nat} {v : Value} {xs : List Value} (hm : MapOf key Good w bm m f) (h : Row w e k v n xs) : v.ownBlock ≠ some bm := by
  intro h2
  obtain ⟨cur, h3⟩ := h.typed bm h2
  obtain ⟨es, cl, h4, _⟩ := hm
  rw [h4] at h3; cases h3
theorem map_ne {α : Type} {key : α → Value} {Good : α → Prop} {w : World} {bm m b : Nat} {f : α → Option Value} {arr : Array Value} {ty : TypeId} {fz : Nat × Nat} (hm : MapOf key Good w bm m f) (h : w.heap[b]? = some (.cells arr ty fz)) : bm ≠ b := by
  intro e
  subst e
  obtain ⟨es, cl, h4, _⟩ := hm
  rw [h4] at h; cases h
theorem set_at {arr : Array Value} {i j : Nat} {v : Value} (h : i ≠ j) : (arr.setIfInBounds i v)[j]? = arr[j]? := by rw [Array.getElem?_setIfInBounds, if_neg h]
theorem set_same {arr : Array Value} {i : Nat} {v : Value} (h : i < arr.size) : (arr.setIfInBounds i v)[i]? = some v := by rw [Array.getElem?_setIfInBounds, if_pos rfl, if_pos h]
section
variable {b : Nat} {S : ArS} {arr : Array Value} {v1 v3 : Value} {bm n : Nat} {fr : List Nat} {g : AKey → Option Nat} {vs : List Value} {w w' : World} {F : Nat → Prop} {lv : Nat} {X : Nat → Prop}
theorem ArAt.n1 (h : ArAt b S arr v1 v3 bm n fr g vs w F lv X) : v1.ownBlock ≠ some b := h.list.ne_type h.own (by decide)
theorem ArAt.n3 (h : ArAt b S arr v1 v3 bm n fr g vs w F lv X) : v3.ownBlock ≠ some b := h.free.ne_type h.own (by decide)
theorem ArAt.nm (h : ArAt b S arr v1 v3 bm n fr g vs w F lv X) : bm ≠ b := map_ne h.map h.own
theorem ArAt.nv (h : ArAt b S arr v1 v3 bm n fr g vs w F lv X) {t : Nat} {v : Value} (hv : vs[t]? = some v) : v.ownBlock ≠ some b := (h.rows t v hv).ne_type h.own (by decide)
end
/-- A number taken off the free ones. -/
theorem taken_free {b : Nat} {S : ArS} {arr : Array Value} {v1 v3 : Value} {bm n : Nat} {fr : List Nat} {g : AKey → Option Nat} {vs : List Value} {w w' : World} {F : Nat → Prop} {m : Nat} {ys : List Nat} {v' : Value}
    (h : ArAt b S arr v1 v3 bm n fr g vs w F (liveL S.L) (fun _ => False)) (hp : (m :: ys).Perm fr) (hh : HeapN ys.length ys) (hN : NumsAt b 3 ((arr.setIfInBounds 196 (.int .i64 ((liveL S.L + 1 : Nat) : Int))).setIfInBounds 3 v') 86 ys v' w')
    (hv : v'.ownBlock = v3.ownBlock) (hk : Keeps (fun k => k = b ∨ v3.ownBlock = some k) w w') :
    ArAt b S ((arr.setIfInBounds 196 (.int .i64 ((liveL S.L + 1 : Nat) : Int))).setIfInBounds 3 v') v1 v' bm n ys g vs w' F (liveL S.L + 1) (fun i => i = m) := by
  have hs := h.size
  have blk : ∀ i, i < w.heap.size → i ≠ b → v3.ownBlock ≠ some i → w'.heap[i]? = w.heap[i]? := fun i hi h1 h2 => hk.block i hi (fun e => by rcases e with e | e; exact h1 e; exact h2 e)
  have hnd : (m :: ys).Nodup := hp.symm.nodup h.nodup
  rw [List.nodup_cons] at hnd
  exact { h with
    own := hN.own
    size := by rw [Array.size_setIfInBounds, Array.size_setIfInBounds, hs]
    c0 := by rw [set_at (by omega), set_at (by omega)]; exact h.c0
    c1 := by rw [set_at (by omega), set_at (by omega)]; exact h.c1
    c2 := by rw [set_at (by omega), set_at (by omega)]; exact h.c2
    c3 := set_same (by rw [Array.size_setIfInBounds, hs]; omega)
    c4 := fun t ht => by rw [set_at (by omega), set_at (by omega)]; exact h.c4 t ht
    c5 := fun t ht => by rw [set_at (by omega), set_at (by omega)]; exact h.c5 t ht
    c6 := fun t ht => by rw [set_at (by omega), set_at (by omega)]; exact h.c6 t ht
    c7 := by rw [set_at (by omega), set_same (by rw [hs]; omega)]
    list := h.list.keep fun q hq => blk q (h.list.lt q hq) (fun e => h.n1 (by rw [← e]; exact hq)) (rows_apart h.list h.free (by decide) hq)
    map := h.map.keep (blk bm h.map.lt h.nm (map_apart h.map h.free))
    free := hN.row
    heap := hh
    nodup := hnd.2
    frees := fun i => by
      have h1 := h.frees i
      have h2 : i ∈ m :: ys ↔ i ∈ fr := hp.mem_iff
      rw [List.mem_cons] at h2
      constructor
      · intro hi
        obtain ⟨a1, a2, a3, _⟩ := h1.1 (h2.1 (.inr hi))
        exact ⟨a1, a2, a3, fun e => hnd.1 (by rw [← e]; exact hi)⟩
      · rintro ⟨a1, a2, a3, a4⟩
        rcases h2.2 (h1.2 ⟨a1, a2, a3, fun h => h⟩) with e | e
        · exact absurd e a4
        · exact e
    rows := fun t v hv' => (h.rows t v hv').keep fun q hq => blk q ((h.rows t v hv').lt q hq) (fun e => h.nv hv' (by rw [← e]; exact hq)) (h.apart3 t v q hv' hq)
    f3 := fun q hq => h.f3 q (by rw [← hv]; exact hq)
    lt := fun i hi => Nat.lt_of_lt_of_le (h.lt i hi) hk.size
    apart3 := fun t v q hv' hq => by rw [hv]; exact h.apart3 t v q hv' hq }
theorem full_long {L : List (Option Ent)} (h : ∀ i, 2 ≤ i → i < L.length → atL L i ≠ none) : L.length ≤ liveL L + 2 := by
  have h1 : (L.drop 2).countP Option.isSome = (L.drop 2).length := by
    rw [List.countP_eq_length]
    intro o ho
    obtain ⟨i, hi⟩ := List.mem_iff_getElem?.1 ho
    rw [List.getElem?_drop] at hi
    have hl := (List.getElem?_eq_some_iff.1 hi).1
    have := h (2 + i) (by omega) hl
    rw [atL, hi] at this
    cases o with
    | none => exact absurd rfl this
    | some x => rfl
  have h2 : liveL L = (L.take 2).countP Option.isSome + (L.drop 2).countP Option.isSome := by
    unfold liveL
    rw [← List.countP_append, List.take_append_drop]
  rw [List.length_drop] at h1
  omega
theorem atL_none {L : List (Option Ent)} {i : Nat} : atL (L ++ [none]) i = atL L i := by
  rw [atL_snoc]
  split
  · next h => rw [h, atL_out (Nat.le_refl _)]
  · rfl
theorem encL_snoc (L : List (Option Ent)) (o : Option Ent) : encL (L ++ [o]) = encL L ++ encO o := by simp [encL, List.flatMap_append]
/-- A number behind all others. -/
theorem taken_new {b : Nat} {S : ArS} {arr : Array Value} {v1 v3 : Value} {bm n : Nat} {g : AKey → Option Nat} {vs : List Value} {w w' : World} {F : Nat → Prop} {v1' : Value}
    (h : ArAt b S arr v1 v3 bm n [] g vs w F (liveL S.L) (fun _ => False)) (hlv : liveL S.L < S.room)
    (hown : w'.heap[b]? = some (.cells ((arr.setIfInBounds 196 (.int .i64 ((liveL S.L + 1 : Nat) : Int))).setIfInBounds 1 v1') 86 (0, 0)))
    (hrow : Row w' 211 8 v1' (S.L.length + 1) (encL S.L ++ encEnt zeroE))
    (_hv : ∀ q, v1'.ownBlock = some q → v1.ownBlock = some q ∨ w.heap.size ≤ q) (hk : Keeps (fun k => k = b ∨ v1.ownBlock = some k) w w') :
    ArAt b { S with L := S.L ++ [none] } ((arr.setIfInBounds 196 (.int .i64 ((liveL S.L + 1 : Nat) : Int))).setIfInBounds 1 v1') v1' v3 bm n [] g vs w' (fun i => F i ∨ v1'.ownBlock = some i) (liveL S.L + 1) (fun i => i = S.L.length) := by
  have hs := h.size
  have blk : ∀ i, i < w.heap.size → i ≠ b → v1.ownBlock ≠ some i → w'.heap[i]? = w.heap[i]? := fun i hi h1 h2 => hk.block i hi (fun e => by rcases e with e | e; exact h1 e; exact h2 e)
  have hfull : ∀ i, 2 ≤ i → i < S.L.length → atL S.L i ≠ none := fun i h1 h2 h3 => by
    have := (h.frees i).2 ⟨h1, h2, h3, fun h => h⟩
    cases this
  have hlong := full_long hfull
  have hc : ∀ t, countL (S.L ++ [none]) t = countL S.L t := fun t => by simp [countL, mine]
  have hl : liveL (S.L ++ [none]) = liveL S.L := by simp [liveL]
  have ok := h.ok
  exact {
    ok := {
      room := ok.room
      two := by simp only [List.length_append, List.length_singleton]; have := ok.two; omega
      nil0 := by simp only [atL_none]; exact ok.nil0
      nil1 := by simp only [atL_none]; exact ok.nil1
      long := by simp only [List.length_append, List.length_singleton]; omega
      live := by simp only [hl]; omega
      uniq := fun i j x y hx hy => by simp only [atL_none] at hx hy; exact ok.uniq i j x y hx hy
      mask := fun i x hx => by simp only [atL_none] at hx; exact ok.mask i x hx
      quota := ok.quota
      quotaR := ok.quotaR
      added := ok.added
      few := fun t l hl => by simp only [hc]; exact ok.few t l hl }
    good := fun i x hx => by simp only [atL_none] at hx; exact h.good i x hx
    own := hown
    size := by rw [Array.size_setIfInBounds, Array.size_setIfInBounds, hs]
    c0 := by rw [set_at (by omega), set_at (by omega)]; exact h.c0
    c1 := set_same (by rw [Array.size_setIfInBounds, hs]; omega)
    c2 := by rw [set_at (by omega), set_at (by omega)]; exact h.c2
    c3 := by rw [set_at (by omega), set_at (by omega)]; exact h.c3
    c4 := fun t ht => by rw [set_at (by omega), set_at (by omega)]; simp only [hc]; exact h.c4 t ht
    c5 := fun t ht => by rw [set_at (by omega), set_at (by omega)]; exact h.c5 t ht
    c6 := fun t ht => by rw [set_at (by omega), set_at (by omega)]; exact h.c6 t ht
    c7 := by rw [set_at (by omega), set_same (by rw [hs]; omega)]
    list := by
      simp only [List.length_append, List.length_singleton, encL_snoc]
      exact hrow
    map := h.map.keep (blk bm h.map.lt h.nm (map_apart h.map h.list))
    keys := fun k i => by simp only [atL_none]; exact h.keys k i
    free := h.free.keep fun q hq => blk q (h.free.lt q hq) (fun e => h.n3 (by rw [← e]; exact hq)) (rows_apart h.free h.list (by decide) hq)
    heap := h.heap
    nodup := h.nodup
    frees := fun i => by
      constructor
      · intro hi; cases hi
      · rintro ⟨a1, a2, a3, a4⟩
        simp only [List.length_append, List.length_singleton] at a2
        simp only [atL_none] at a3
        exact absurd a3 (hfull i a1 (by omega))
    len := h.len
    rows := fun t v hv' => (h.rows t v hv').keep fun q hq => blk q ((h.rows t v hv').lt q hq) (fun e => h.nv hv' (by rw [← e]; exact hq)) (rows_apart (h.rows t v hv') h.list (by decide) hq)
    fb := .inl h.fb
    fm := .inl h.fm
    f1 := fun q hq => .inr hq
    f3 := fun q hq => .inl (h.f3 q hq)
    fv := fun t v q hv' hq => .inl (h.fv t v q hv' hq)
    lt := fun i hi => by
      rcases hi with hi | hi
      · exact Nat.lt_of_lt_of_le (h.lt i hi) hk.size
      · exact hrow.lt i hi
    apart3 := h.apart3
    apart := h.apart }
theorem infoEnt : (Tryz.prog.info? 211).map (fun i => (i.zero, i.size, i.bytes)) = some (some (.agg (encEnt zeroE).toArray), 8, 64) := by kernel_rfl
theorem leastA_of {L : List (Option Ent)} {m : Nat} {fr : List Nat} (hfr : ∀ i, i ∈ fr ↔ 2 ≤ i ∧ i < L.length ∧ atL L i = none ∧ ¬ False) (hm : m ∈ fr) (hle : ∀ x ∈ fr, m ≤ x) : LeastA L m := by
  obtain ⟨a1, a2, a3, _⟩ := (hfr m).1 hm
  refine ⟨a1, a3, by omega, fun j h1 h2 h3 => ?_⟩
  have := hle j ((hfr j).2 ⟨h1, by omega, h3, fun h => h⟩)
  omega
set_option maxHeartbeats 4000000 in
set_option maxRecDepth 100000 in
theorem take_any (b : Nat) (S : ArS) (arr : Array Value) (v1 v3 : Value) (bm n : Nat) (fr : List Nat) (g : AKey → Option Nat) (vs : List Value) (w : World) (F : Nat → Prop) (h : ArAt b S arr v1 v3 bm n fr g vs w F (liveL S.L) (fun _ => False)) (hlv : liveL S.L < S.room) :
    Calls Tryz.prog 201 #[.pointer (some ⟨b, 0, none⟩)] w fun e w' => ∃ (id : Nat) (S' : ArS) (arr' : Array Value) (v1' v3' : Value) (fr' : List Nat) (F' : Nat → Prop), e = .returned (.int .i64 id) ∧ LeastA S.L id ∧ S' = roomA S id ∧
      ArAt b S' arr' v1' v3' bm n fr' g vs w' F' (liveL S.L + 1) (fun i => i = id) ∧ (∀ i, F' i → F i ∨ w.heap.size ≤ i) ∧ Keeps F w w' := by
  have hs := h.size
  have hroom := h.ok.room
  have hlong := h.ok.long
  have c7 := (h.cell 196).trans h.c7
  have f7 : w.frozen? ⟨b, 196, none⟩ = false := Joins.unfrozen_of_block h.own 196
  obtain ⟨lv, hlvE⟩ : ∃ lv, lv = liveL S.L := ⟨_, rfl⟩
  obtain ⟨lv1, hlv1⟩ : ∃ lv1, lv1 = lv + 1 := ⟨_, rfl⟩
  have hI : (lv : Int) + 1 = (lv1 : Int) := by omega
  rw [← hlvE] at c7 hlv
  have HLV1 : Aside (lv1 = liveL S.L + 1) := by show _ = _; omega
  have hlvb : lv < 200000 := by omega
  clear hlv1
  obtain ⟨w1, hw1⟩ : ∃ w1, w1 = w.setCell ⟨b, 196, none⟩ (.int .i64 (lv1 : Int)) := ⟨_, rfl⟩
  have hb1 : w1.heap[b]? = some (.cells (arr.setIfInBounds 196 (.int .i64 (lv1 : Int))) 86 (0, 0)) := by rw [hw1]; exact Joins.block_setCell h.own _
  have hk1 : Keeps (fun k => k = b) w w1 := by rw [hw1]; exact Keeps.setCell (p := ⟨b, 196, none⟩) (Keeps.refl (fun k => k = b) w) (fun _ => rfl) _
  have hz1 : w1.heap.size = w.heap.size := by rw [hw1]; simp [World.setCell]
  obtain ⟨a3, c3, hv3, _, _, _⟩ := h.free.form
  have k3 : w1.cell? ⟨b, 3, none⟩ = some (.slice a3 fr.length c3) := by rw [Joins.cell_of_block hb1, set_at (by omega), h.c3, hv3]
  have hw1s := hw1.symm
  by_cases hf : fr = []
  · subst hf
    obtain ⟨i0, hi, hz0, hzs, hzb⟩ := info_parts infoEnt
    obtain ⟨a1, c1, hv1, hcl, hcm, _⟩ := h.list.form
    have k1 : w1.cell? ⟨b, 1, none⟩ = some (.slice a1 S.L.length c1) := by rw [Joins.cell_of_block hb1, set_at (by omega), h.c1, hv1]
    have hr1 : Row w1 211 8 v1 S.L.length (encL S.L) := h.list.keep fun q hq => hk1.block q (h.list.lt q hq) (fun e => h.n1 (by rw [← e]; exact hq))
    have hr2 : Row (w1.alloc (.cells #[.int .i64 0, .int .i64 0, .int .i64 0, .int .i64 0, .int .i64 0, .int .i64 0, .int .i64 0, .int .u64 0] 211)) 211 8 v1 S.L.length (encL S.L) := hr1.keep fun q hq => Below.heap_alloc w1 _ q (hr1.lt q hq)
    have hb2 : (w1.alloc (.cells #[.int .i64 0, .int .i64 0, .int .i64 0, .int .i64 0, .int .i64 0, .int .i64 0, .int .i64 0, .int .u64 0] 211)).heap[b]? = some (.cells (arr.setIfInBounds 196 (.int .i64 (lv1 : Int))) 86 (0, 0)) := blk_alloc hb1 _
    have hk2 : Keeps (fun k => k = b ∨ v1.ownBlock = some k) w (w1.alloc (.cells #[.int .i64 0, .int .i64 0, .int .i64 0, .int .i64 0, .int .i64 0, .int .i64 0, .int .i64 0, .int .u64 0] 211)) := (hk1.mono fun i _ e => .inl e).alloc _
    obtain ⟨N, hN⟩ : ∃ N, N = S.L.length := ⟨_, rfl⟩
    have hn1 : some b ≠ v1.ownBlock := fun e => h.n1 e.symm
    have hnw : ∀ j u, (encEnt zeroE)[j]? = some u → (w1.alloc (.cells #[.int .i64 0, .int .i64 0, .int .i64 0, .int .i64 0, .int .i64 0, .int .i64 0, .int .i64 0, .int .u64 0] 211)).cell? (Addr.add ⟨w1.heap.size, 0, none⟩ j) = some u := news_alloc w1 _ _ rfl
    have h1c : ∀ u ∈ encEnt zeroE, u.oneCell' = true := by
      intro u hu
      simp [encEnt, zeroE] at hu
      rcases hu with rfl | rfl <;> rfl
    rw [hv1] at hr2 hn1 hk2
    rw [← hN] at k1 hr2 hn1 hk2 hlong hcl
    have hbl := lt_of_block hb2
    have HR2 := Lib.hid hr2
    have HN1 := Lib.hid hn1
    have HB2 := Lib.hid hb2
    have HK2 := Lib.hid hk2
    have HNW := Lib.hid hnw
    have HH := Lib.hid h
    have HNN := Lib.hid hN
    have HV1 := Lib.hid hv1
    have HV3 := Lib.hid hv3
    have hz2 : (w1.alloc (.cells #[.int .i64 0, .int .i64 0, .int .i64 0, .int .i64 0, .int .i64 0, .int .i64 0, .int .i64 0, .int .u64 0] 211)).heap.size = w.heap.size + 1 := by simp [hz1]
    have HZ2 := Lib.hid hz2
    have HZ1 := Lib.hid hz1
    have HA1 := Lib.hid (show (arr.setIfInBounds 196 (.int .i64 (lv1 : Int)))[1]? = some (.slice a1 N c1) by rw [set_at (by omega), h.c1, hv1, hN])
    have t1 : decide (((0 : Nat) : Int) > 0) = false := by decide
    clear hr1 hr2 hb2 hk2 hnw h hN hv1 hv3 hk1 hb1 hw1 hn1 hlvE hz2 hz1
    go_enter Tryz.func201, Tryz.ntmps201
    go_wp2_with ((at_builtin; go_loud ( refine wpList_append_row _ rfl (.tmp 26) (.tmp 28) 80 rfl 211 i0 _ 8 64 Tryz.underlying80 hi hz0 hzs hzb rfl (by omega) (.slice a1 N c1) N (encL S.L) rfl HR2.out ⟨w1.heap.size, 0, none⟩ 1 1 (encEnt zeroE) rfl rfl HNW.out h1c (by omega) (by unfold maxLen; omega) (by omega) _ rfl ?_; intro g2 off cap w2 hrow hg hat; have d1 : w2.frozen? ⟨b, 1, none⟩ = false := Joins.unfrozen_of_block ((hg.block b hbl HN1.out).trans HB2.out) 1; have d0 : w2.cell? ⟨b, 1, none⟩ = some (.slice a1 N c1) := (Joins.cell_of_block ((hg.block b hbl HN1.out).trans HB2.out) 1).trans HA1.out)))
    go_ret
    have hN := HNN.out
    subst hN
    have hb3 := (hg.block b hbl HN1.out).trans HB2.out
    have hgb : g2 ≠ b := fun e => by
      rcases hat with hat | hat
      · exact HN1.out (by rw [e] at hat; exact hat.symm)
      · have h1 := hbl
        simp at h1 hat
        omega
    have hz1 := HZ1.out
    have hge : w.heap.size ≤ g2 ∨ (Value.slice a1 S.L.length c1).ownBlock = some g2 := by
      rcases hat with hat | hat
      · exact .inr hat
      · refine .inl ?_
        rw [hat]; simp [hz1]
    have hk3 : Keeps (fun k => k = b ∨ v1.ownBlock = some k) w (w2.setCell ⟨b, 1, none⟩ (.slice (some ⟨g2, off, none⟩) (S.L.length + 1) cap)) := by
      rw [HV1.out]
      exact Keeps.setCell (p := ⟨b, 1, none⟩) (Keeps.grown HK2.out hg fun g' hg' _ => .inr hg') (fun _ => .inl rfl) _
    have hA := taken_new (v1' := .slice (some ⟨g2, off, none⟩) (S.L.length + 1) cap) HH.out (by have := HLV1.out; omega) (by rw [← HLV1.out]; exact Joins.block_setCell hb3 _) (hrow.keep fun q hq => by
      simp only [Value.ownBlock, Option.some.injEq] at hq
      subst hq
      exact Below.heap_setCell _ _ _ _ hgb) (fun q hq => by
      simp only [Value.ownBlock, Option.some.injEq] at hq
      subst hq
      rcases hge with h | h
      · exact .inr h
      · rw [HV1.out]; exact .inl h) hk3
    have hL : LeastA S.L S.L.length := by
      refine ⟨HH.out.ok.two, atL_out (Nat.le_refl _), Nat.le_refl _, fun j h1 h2 h3 => ?_⟩
      have := (HH.out.frees j).2 ⟨h1, h2, h3, fun h => h⟩
      cases this
    refine ⟨S.L.length, _, _, _, v3, [], _, rfl, hL, by rw [roomA, if_neg (by omega)], by rw [← HLV1.out] at hA; rw [← HLV1.out]; exact hA, fun i hi => ?_, hk3.mono fun i _ e => ?_⟩
    · rcases hi with hi | hi
      · exact .inl hi
      · simp only [Value.ownBlock, Option.some.injEq] at hi
        subst hi
        rcases hge with h | h
        · exact .inr h
        · exact .inl (HH.out.f1 _ (by rw [HV1.out]; exact h))
    · rcases e with e | e
      · rw [e]; exact HH.out.fb
      · exact HH.out.f1 i e
  · have hf0 : 0 < fr.length := List.length_pos_iff.2 hf
    have hfl : fr.length ≤ S.L.length := by
      have := h.nodup.length_le_of_subset (l₂ := List.range S.L.length) (fun i hi => List.mem_range.2 ((h.frees i).1 hi).2.1)
      rwa [List.length_range] at this
    have t1 : decide ((fr.length : Int) > 0) = true := decide_eq_true (by omega)
    have t2 : decide (0 < (fr.length : Int)) = true := decide_eq_true (by omega)
    have t3 : decide (0 < fr.length) = true := decide_eq_true hf0
    have hN : NumsAt b 3 (arr.setIfInBounds 196 (.int .i64 (lv1 : Int))) 86 fr v3 w1 :=
      ⟨hb1, by rw [set_at (by omega)]; exact h.c3, h.free.keep fun q hq => hk1.block q (h.free.lt q hq) (fun e => h.n3 (by rw [← e]; exact hq)), h.n3⟩
    have HP := Lib.hid (hpop_any b 3 _ _ fr v3 w1 hN h.heap hf0 (by omega))
    unfold numsI at HP
    have hta : ∀ (m : Nat) (W : World), (Instr.typeAssert (.iface 3 (.int .i64 m)) 20 3 false).run Tryz.prog W = .ok (.int .i64 m) W := fun m W => by kernel_rfl
    have HH := Lib.hid h
    have HK1 := Lib.hid hk1
    have HV3 := Lib.hid hv3
    obtain ⟨q, hq⟩ : ∃ q, q = fr.length := ⟨_, rfl⟩
    rw [← hq] at k3 t1 t2 t3
    clear h hN hk1 hlvE hv3 hb1 hw1 hf hf0 hfl hq
    go_enter Tryz.func201, Tryz.ntmps201
    go_wp2_with fail
    refine HP.out.mono ?_
    rintro e w2 ⟨m, ys, v', rfl, hp, hle, hh, hN2, hvo, hk2⟩
    have hL := leastA_of HH.out.frees (hp.mem_iff.1 (List.mem_cons_self ..)) hle
    have HML := Lib.hid ((HH.out.frees m).1 (hp.mem_iff.1 (List.mem_cons_self ..))).2.1
    have hA := taken_free HH.out hp hh (by rw [← HLV1.out]; exact hN2) hvo ((HK1.out.mono fun i _ e => .inl e).trans hk2 fun i _ e => e)
    have HA := Lib.hid hA
    have HL := Lib.hid hL
    have HK2 := Lib.hid ((HK1.out.mono (G := F) fun i _ e => by rw [e]; exact HH.out.fb).trans hk2 (fun i _ e => by
      rcases e with e | e
      · rw [e]; exact HH.out.fb
      · exact HH.out.f3 i e))
    clear hp hle hh hN2 hvo hk2 hL hA
    go_wp2_with fail
    go_ret
    exact ⟨m, S, _, v1, v', ys, F, rfl, HL.out, by rw [roomA, if_pos HML.out], HA.out, fun i hi => .inl hi, HK2.out⟩
end Go.Proofs.YtabhpbkkjijfjaaGreatDoor
