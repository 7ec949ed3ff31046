/-
  A strings.Builder that lies in a struct: copyCheck, WriteString, String.
-/
import Derived.Lib.AppendStr
import Derived.Test.YtabhpbkkjijfjaaGreatDoorZHouseLogsBuild
import Derived.Test.YtabhpbkkjijfjaaGreatDoorZHouseLogsFoot
namespace Go.Proofs.YtabhpbkkjijfjaaGreatDoor
set_option maxRecDepth 100000
open Go.RowKit Go.Shelf Go.Proofs

/-- A builder of these bytes at cell o of a struct's block. -/
structure BldAt (b o : Nat) (T : TypeId) (arr : Array Value) (v : Value) (bs : List Value) (w : World) : Prop where
  blk : w.heap[b]? = some (.cells arr T (0, 0))
  c0 : arr[o]? = some (.pointer none) ∨ arr[o]? = some (.pointer (some ⟨b, o, none⟩))
  c1 : arr[o + 1]? = some v
  own : w.ownsRow 0 5 1 v bs.length bs
  ty : T ≠ 5
  nil : bs = [] → v = .slice none 0 0
theorem BldAt.ne {b o : Nat} {T : TypeId} {arr : Array Value} {v : Value} {bs : List Value} {w : World} (h : BldAt b o T arr v bs w) : v.ownBlock ≠ some b := Lib.ownBlock_ne h.own h.blk h.ty
theorem BldAt.keep {b o : Nat} {T : TypeId} {arr : Array Value} {v : Value} {bs : List Value} {w w' : World} (h : BldAt b o T arr v bs w) (hb : w'.heap[b]? = w.heap[b]?) (ho : ∀ g, v.ownBlock = some g → w'.heap[g]? = w.heap[g]?) : BldAt b o T arr v bs w' := by
  refine ⟨hb.trans h.blk, h.c0, h.c1, ?_, h.ty, h.nil⟩
  obtain ⟨h1, h2⟩ := h.own
  refine ⟨h1, ?_⟩
  rcases h2 with ⟨e1, e2⟩ | ⟨g, cap, cur, e, hg, hc, h3⟩
  · exact .inl ⟨e1, e2⟩
  · exact .inr ⟨g, cap, cur, e, hg, (ho g (by rw [e]; rfl)).trans hc, h3⟩
/-- Where the bytes of an append lie. -/
theorem run_str_at {P : Program} (w : World) (t u ty e : TypeId) (i : TypeInfo) (ht : P.underlying t = some (.slice e)) (hu : P.underlying u = some .string) (hi : P.info? e = some i) (hz : i.zero = some (.int .u8 0)) (hsize : i.size = 1) (hby : i.bytes = 1)
    (v : Value) (n : Nat) (xs : List Value) (hown : w.ownsRow 0 e 1 v n xs) (s : ByteArray) (h63 : n + s.size ≤ maxLen) (hbytes : n + s.size ≤ 140737488355328) :
    ∃ v' w', (Builtin.append_ #[t, u] ty #[v, .string s]).run P w = .ok v' w' ∧ w'.ownsRow 0 e 1 v' (n + s.size) (xs ++ Lib.strCells s) ∧ w.grownBy w' v.ownBlock ∧ (∀ g, v'.ownBlock = some g → v.ownBlock = some g ∨ w.heap.size ≤ g) ∧ (v' = .slice none 0 0 ↔ v = .slice none 0 0 ∧ s.size = 0) := by
  obtain ⟨v', w', hr, h2, h3, h4⟩ := Lib.run_append_own_string (P := P) w 0 t u ty e i ht hu hi hz hsize hby v n xs hown s h63 hbytes (Nat.zero_le _)
  refine ⟨v', w', hr, h2, h3, fun g hg => ?_, h4⟩
  have hxl : xs.length = n := by simpa using hown.1
  have hsmall : n + s.size ≤ 9223372036854775807 := by simp only [maxLen] at h63; omega
  rcases hown.2 with ⟨rfl, hn0⟩ | ⟨g0, cap, cur, rfl, _, hg0, hnc, hcm, hcs, htake⟩
  · right
    by_cases hm : s.size = 0
    · rw [(h4).2 ⟨rfl, hm⟩] at hg; simp [Value.ownBlock] at hg
    · have hr2 := run_append_nil_string (P := P) w t u ty e i (.int .u8 0) ht hu hi hz s (by omega) (by omega) (by rw [hby]; omega)
      rw [hr] at hr2
      injection hr2 with e1 e2
      rw [e1] at hg
      simp [Value.ownBlock] at hg
      omega
  · by_cases hroom : n + s.size ≤ cap
    · left
      have hcs2 : cur.size = cap := by simpa using hcs
      have hr2 := Lib.run_append_room_string (P := P) w t u ty e i ht hu hi hsize g0 n cap cur hg0 s hroom (by omega)
      rw [hr] at hr2
      injection hr2 with e1 e2
      rw [e1] at hg
      exact hg
    · right
      have holds : ∀ j u, xs[j]? = some u → w.cell? ((⟨g0, 0, none⟩ : Addr).add j) = some u := hown.cells (g := g0) rfl
      have hr2 := Lib.run_append_grow_string (P := P) w t u ty e i (.int .u8 0) ht hu hi hz ⟨g0, 0, none⟩ n cap xs (by rw [hsize]; simpa using hxl) holds s (by omega) (by omega) (by rw [hby]; exact growslice_fits (by omega) (by omega))
      rw [hr] at hr2
      injection hr2 with e1 e2
      rw [e1] at hg
      simp [Value.ownBlock] at hg
      omega
theorem wpList_str_at {P : Program} (w : World) {ops : Array Oper} {rest : List Oper} {o : Oper} {a : Act} {Q : Exit → Act → World → Prop} (hgd : o.guard = none) (sl x : Operand) (t u : TypeId)
    (ho : o.op = .call { callee := .builtin .append, args := #[sl, x], argTypes := #[t, u] })
    (e : TypeId) (i : TypeInfo) (ht : P.underlying t = some (.slice e)) (hu : P.underlying u = some .string) (hi : P.info? e = some i) (hz : i.zero = some (.int .u8 0))
    (hsize : i.size = 1) (hby : i.bytes = 1)
    (v : Value) (n : Nat) (xs : List Value) (hs : a.eval sl = v) (hown : w.ownsRow 0 e 1 v n xs) (s : ByteArray) (hx : a.eval x = .string s)
    (h63 : n + s.size ≤ maxLen) (hbytes : n + s.size ≤ 140737488355328)
    (h : ∀ v' w', w'.ownsRow 0 e 1 v' (n + s.size) (xs ++ Lib.strCells s) → w.grownBy w' v.ownBlock → (∀ g, v'.ownBlock = some g → v.ownBlock = some g ∨ w.heap.size ≤ g) → (v' = .slice none 0 0 ↔ v = .slice none 0 0 ∧ s.size = 0) → wpList P ops Q rest (a.put o.dst v') w') : wpList P ops Q (o :: rest) a w := by
  refine wpList_plain hgd fun K hK => ?_
  obtain ⟨v', w', hr, h2, h3, h4, h5⟩ := run_str_at (P := P) w t u o.type e i ht hu hi hz hsize hby v n xs hown s h63 hbytes
  unfold Oper.wp execOp
  simp only [ho, resolve, invoke, builtin, Sem.run_bind, Sem.run_pure, Result.andThen_ok, List.map_toArray, List.map_cons, List.map_nil, hs, hx, hr]
  exact hK _ _ (h v' w' h2 h3 h4 h5)
set_option maxRecDepth 100000 in
theorem icheck_used (b o : Nat) (w : World) (h0 : w.cell? ⟨b, o, none⟩ = some (.pointer (some ⟨b, o, none⟩))) :
    Calls Tryz.prog 34 #[.pointer (some ⟨b, o, none⟩)] w fun e w' => e = .returned (.tuple #[]) ∧ w' = w := by
  obtain ⟨j, hj, _⟩ := Option.map_eq_some_iff.1 sizeBuilder
  go_enter Tryz.func34, Tryz.ntmps34
  go_wp2
  rw [Lib.run_neq_ptr_same w _ Tryz.underlying50 hj]
  go_wp2
  go_end0
  exact ⟨rfl, rfl⟩
set_option maxRecDepth 100000 in
theorem icheck_fresh (b o : Nat) (T : TypeId) (cells : Nat) (w : World) (h0 : w.cell? ⟨b, o, none⟩ = some (.pointer none)) (hsh : w.shape? b = some (T, cells)) (ho : o < cells) (hlies : liesAt Tryz.prog Tryz.prog.depth T (cells / Tryz.prog.cellsOf T) o 53 1 = true) (hfz : w.frozen? ⟨b, o, none⟩ = false) :
    Calls Tryz.prog 34 #[.pointer (some ⟨b, o, none⟩)] w fun e w' => e = .returned (.tuple #[]) ∧ w' = w.setCell ⟨b, o, none⟩ (.pointer (some ⟨b, o, none⟩)) := by
  obtain ⟨j, hj, hjs⟩ := Option.map_eq_some_iff.1 sizeBuilder
  go_enter Tryz.func34, Tryz.ntmps34
  go_wp2
  rw [Lib.run_to_unsafe w ⟨b, o, none⟩ Tryz.underlying50 Tryz.underlying117 hj (by rw [hjs]; decide) hsh ho]
  simp only [Result.andThen]
  rw [Oper.upon_value]
  go_wp2
  rw [run_callFunc_extern Tryz.func44 (by kernel_rfl) (by kernel_rfl) (by kernel_rfl) (e := Extern.AbiNoEscape.same) (by kernel_rfl)]
  rw [Lib.run_noEscape]
  simp only [Result.andThen]
  rw [Oper.upon_value]
  go_wp2
  rw [Lib.run_from_unsafe w ⟨b, o, none⟩ Tryz.underlying117 Tryz.underlying50 hj hsh hlies]
  simp only [Result.andThen]
  rw [Oper.upon_value]
  go_wp2
  go_end0
  exact ⟨rfl, rfl⟩
/-- Behind the look at its own address. -/
theorem icheck_any (b o : Nat) (T : TypeId) (arr : Array Value) (v : Value) (bs : List Value) (w : World) (h : BldAt b o T arr v bs w) (hlies : liesAt Tryz.prog Tryz.prog.depth T (arr.size / Tryz.prog.cellsOf T) o 53 1 = true) :
    Calls Tryz.prog 34 #[.pointer (some ⟨b, o, none⟩)] w fun e w' => e = .returned (.tuple #[]) ∧ BldAt b o T (arr.setIfInBounds o (.pointer (some ⟨b, o, none⟩))) v bs w' ∧ Keeps (fun i => i = b) w w' ∧ w'.heap.size = w.heap.size := by
  have hlt : o < arr.size := by
    have := (Array.getElem?_eq_some_iff.1 h.c1).1
    omega
  have hc := Joins.cell_of_block h.blk o
  rcases h.c0 with e | e
  · refine (icheck_fresh b o T arr.size w (hc.trans e) (by simp [World.shape?, h.blk]) hlt hlies (Joins.unfrozen_of_block h.blk o)).mono ?_
    rintro e w' ⟨rfl, rfl⟩
    refine ⟨rfl, ⟨Joins.block_setCell h.blk _, .inr (by simp [hlt]), by rw [Array.getElem?_setIfInBounds_ne (by omega)]; exact h.c1, ?_, h.ty, h.nil⟩, (Keeps.refl (fun i => i = b) w).setCell (p := ⟨b, o, none⟩) (fun _ => rfl) _, by simp [World.setCell]⟩
    exact h.own.kept (row := some b) ⟨rfl, rfl, rfl, by simp [World.setCell], fun k _ hk => Below.heap_setCell _ _ _ _ (fun e => hk (by simp [e]))⟩ (.inr h.ne)
  · refine (icheck_used b o w (hc.trans e)).mono ?_
    rintro e' w' ⟨rfl, rfl⟩
    have ha : arr.setIfInBounds o (.pointer (some ⟨b, o, none⟩)) = arr := by
      apply Array.ext_getElem?
      intro i
      rw [Array.getElem?_setIfInBounds]
      by_cases hi : o = i
      · subst hi; rw [if_pos rfl, if_pos hlt, e]
      · rw [if_neg hi]
    rw [ha]
    exact ⟨rfl, h, Keeps.refl _ _, rfl⟩
set_option maxHeartbeats 2000000 in
set_option maxRecDepth 100000 in
theorem iwrite_any (b o : Nat) (T : TypeId) (arr : Array Value) (v : Value) (bs : List Value) (s : ByteArray) (w : World) (h : BldAt b o T arr v bs w) (hlies : liesAt Tryz.prog Tryz.prog.depth T (arr.size / Tryz.prog.cellsOf T) o 53 1 = true) (hlen : bs.length + s.size ≤ 140737488355328) :
    Calls Tryz.prog 23 #[.pointer (some ⟨b, o, none⟩), .string s] w fun e w' => e = .returned (.tuple #[.int .i64 s.size, .nilIface]) ∧ ∃ v', BldAt b o T ((arr.setIfInBounds o (.pointer (some ⟨b, o, none⟩))).setIfInBounds (o + 1) v') v' (bs ++ Lib.strCells s) w' ∧ (∀ g, v'.ownBlock = some g → v.ownBlock = some g ∨ w.heap.size ≤ g) ∧ Keeps (fun i => i = b ∨ v.ownBlock = some i) w w' := by
  obtain ⟨i0, hi, hz0, hz1, hz2⟩ := info_parts infoByte
  have hCK := icheck_any b o T arr v bs w h hlies
  have HCK := Lib.hid hCK
  have hne := h.ne
  have HNE := Lib.hid hne
  clear hCK h hne
  go_enter Tryz.func23, Tryz.ntmps23
  go_wp2_with fail
  with_reducible refine HCK.out.mono ?_
  rintro e w1 ⟨rfl, h1, hk1, hz⟩
  have c1 : w1.cell? ⟨b, o + 1, none⟩ = some v := (Joins.cell_of_block h1.blk (o + 1)).trans h1.c1
  have f1 : w1.frozen? ⟨b, o + 1, none⟩ = false := Joins.unfrozen_of_block h1.blk (o + 1)
  have HO := Lib.hid h1.own
  have H1 := Lib.hid h1
  have HK1 := Lib.hid hk1
  have HZ := Lib.hid hz
  clear h1 hk1 hz
  go_wp2_with (at_builtin; refine wpList_str_at _ rfl _ _ 51 9 rfl 5 i0 Tryz.underlying51 Tryz.underlying9 hi hz0 hz1 hz2 _ _ _ rfl HO.out s rfl ?c3 ?c4 ?_)
  case c3 => unfold maxLen; omega
  case c4 => omega
  intro v' w2 hown hgrow hat hnil
  obtain ⟨ao, cap, rfl⟩ := own_form hown
  have hnl : bs ++ Lib.strCells s = [] → Value.slice ao (bs.length + s.size) cap = .slice none 0 0 := fun e => by
    have e1 : bs = [] := (List.append_eq_nil_iff.1 e).1
    have e2 : s.size = 0 := by rw [← Lib.strCells_length, (List.append_eq_nil_iff.1 e).2]; rfl
    have e3 : s = ByteArray.empty := by
      cases s with
      | mk d =>
        have h0 : d = #[] := Array.eq_empty_of_size_eq_zero e2
        subst h0; rfl
    exact hnil.2 ⟨H1.out.nil e1, e3⟩
  have HNIL := Lib.hid hnl
  clear hnil hnl
  have hlt1 : b < w1.heap.size := lt_of_block H1.out.blk
  have hb2 : w2.heap[b]? = some (.cells (arr.setIfInBounds o (.pointer (some ⟨b, o, none⟩))) T (0, 0)) := (hgrow.block b hlt1 (fun e => HNE.out e.symm)).trans H1.out.blk
  have d1 : w2.cell? ⟨b, o + 1, none⟩ = some v := (Joins.cell_of_block hb2 (o + 1)).trans H1.out.c1
  have f2 : w2.frozen? ⟨b, o + 1, none⟩ = false := Joins.unfrozen_of_block hb2 (o + 1)
  have hne2 : (Value.slice ao (bs.length + s.size) cap).ownBlock ≠ some b := Lib.ownBlock_ne hown hb2 H1.out.ty
  have HG := Lib.hid hat
  have HW2 := Lib.hid hgrow
  have HB2 := Lib.hid hb2
  have HOW := Lib.hid hown
  have HN2 := Lib.hid hne2
  clear hgrow hb2 hown hne2 hat
  go_wp2_with fail
  go_ret2
  have hsz : (bs ++ Lib.strCells s).length = bs.length + s.size := by rw [List.length_append, Lib.strCells_length]
  have hlt2 : o + 1 < arr.size := by
    have := (Array.getElem?_eq_some_iff.1 H1.out.c1).1
    rwa [Array.size_setIfInBounds] at this
  refine ⟨rfl, _, ⟨Joins.block_setCell HB2.out _, .inr ?_, by simp [hlt2], ?_, H1.out.ty, fun e => ?_⟩, fun g hg => ?_, ?_⟩
  · rw [Array.getElem?_setIfInBounds_ne (by omega), Array.getElem?_setIfInBounds, if_pos rfl, if_pos (by omega)]
  · rw [hsz]
    exact HOW.out.kept (row := some b) ⟨rfl, rfl, rfl, by simp [World.setCell], fun k _ hk => Below.heap_setCell _ _ _ _ (fun e => hk (by simp [e]))⟩ (.inr HN2.out)
  · exact HNIL.out e
  · have := HG.out g hg
    rwa [HZ.out] at this
  · refine (((HK1.out.mono fun i _ e => .inl e).trans (⟨HW2.out.os, HW2.out.tape, HW2.out.output, HW2.out.size, fun i hi hn => HW2.out.block i hi fun e => hn (.inr e.symm)⟩) fun _ _ e => e).setCell (p := ⟨b, o + 1, none⟩) (fun _ => .inl rfl) _)
theorem keeps_freeze (w : World) (g n : Nat) : Keeps (fun i => some g = some i) w (w.drew.freeze ⟨g, 0, none⟩ n) := by
  refine (Keeps.refl _ w).drew.trans ?_ fun _ _ e => e
  unfold World.freeze
  split
  · exact Keeps.refl _ _
  · exact ⟨rfl, rfl, rfl, by simp, fun k _ hn => by
      simp only [Array.getElem?_modify]
      rw [if_neg (fun e => hn (by rw [show g = k from e]))]⟩
theorem cellsByteI : Tryz.prog.cellsOf 5 = 1 := by kernel_rfl
set_option maxHeartbeats 2000000 in
set_option maxRecDepth 100000 in
theorem istring_some (b o : Nat) (T : TypeId) (arr : Array Value) (v : Value) (l : List UInt8) (w : World) (h : BldAt b o T arr v (Lib.byteCells l) w) (h0 : l ≠ []) :
    Calls Tryz.prog 29 #[.pointer (some ⟨b, o, none⟩)] w fun e w' => e = .returned (.string ⟨l.toArray⟩) ∧ Keeps (fun i => v.ownBlock = some i) w w' := by
  have hl0 : l.length ≠ 0 := by simpa using h0
  have hown := h.own
  rw [Lib.byteCells_length] at hown
  obtain ⟨g, cap, cur, rfl, hbg, hg, hnc, hcm, hcs, htake⟩ : ∃ g cap cur, v = .slice (some ⟨g, 0, none⟩) l.length cap ∧ 0 ≤ g ∧ w.heap[g]? = some (.cells cur 5 (0, 0)) ∧ l.length ≤ cap ∧ cap ≤ maxLen ∧ cur.size = cap * 1 ∧ cur.toList.take (l.length * 1) = Lib.byteCells l := by
    rcases hown.2 with ⟨_, hz⟩ | ⟨g, cap, cur, hv, r⟩
    · exact absurd hz hl0
    · exact ⟨g, cap, cur, hv, r⟩
  have c1 : w.drew.cell? ⟨b, o + 1, none⟩ = some (.slice (some ⟨g, 0, none⟩) l.length cap) := (Joins.cell_of_block h.blk (o + 1)).trans h.c1
  have hSD : ∀ W, (Builtin.unsafeSliceData_ #[51] 115 #[.slice (some ⟨g, 0, none⟩) l.length cap]).run Tryz.prog W = .ok (.pointer (some ⟨g, 0, none⟩)) W := fun W =>
    Lib.run_unsafeSliceData_row _ _ _ _ _ _ (by omega)
  have hUS : (Builtin.unsafeString_ #[115, 3] 9 #[.pointer (some ⟨g, 0, none⟩), .int .i64 l.length]).run Tryz.prog w.drew = .ok (.string ⟨l.toArray⟩) (w.drew.freeze ⟨g, 0, none⟩ l.length) := by
    refine Lib.run_unsafeString_row w.drew 115 3 9 5 Tryz.underlying115 cellsByteI g cur.size (by have hg' : w.drew.heap[g]? = some (.cells cur 5 (0, 0)) := hg; simp [World.shape?, hg']) l h0 (by omega) (by unfold maxLen at hcm; omega) ?_
    intro j x hx
    have := hown.cells (g := g) rfl j (.int .u8 x.toNat) (by simp [Lib.byteCells, hx])
    exact this
  have HK := Lib.hid (show Keeps (fun i => (Value.slice (some ⟨g, 0, none⟩) l.length cap).ownBlock = some i) w (w.drew.freeze ⟨g, 0, none⟩ l.length) from keeps_freeze w g l.length)
  have hSD := hSD w.drew
  have mixed : Tryz.prog.follows Departure.mixedOrders = true := by kernel_rfl
  clear h hown hg htake hcs
  go_enter Tryz.func29, Tryz.ntmps29
  go_wp2
  go_region_o
  all_goals
    go_wp2
    go_ret
    exact ⟨rfl, HK.out⟩
set_option maxHeartbeats 2000000 in
set_option maxRecDepth 100000 in
theorem istring_none (b o : Nat) (T : TypeId) (arr : Array Value) (v : Value) (w : World) (h : BldAt b o T arr v [] w) :
    Calls Tryz.prog 29 #[.pointer (some ⟨b, o, none⟩)] w fun e w' => e = .returned (.string ⟨#[]⟩) ∧ Keeps (fun _ => False) w w' := by
  have hv := h.nil rfl
  subst hv
  have hUS := fun W => Lib.run_unsafeString_none (P := Tryz.prog) W 115 3 9 none
  have c1 : w.drew.cell? ⟨b, o + 1, none⟩ = some (.slice none 0 0) := (Joins.cell_of_block h.blk (o + 1)).trans h.c1
  have hSD : (Builtin.unsafeSliceData_ #[51] 115 #[.slice none 0 0]).run Tryz.prog w.drew = .ok (.pointer none) w.drew := rfl
  have mixed : Tryz.prog.follows Departure.mixedOrders = true := by kernel_rfl
  clear h
  go_enter Tryz.func29, Tryz.ntmps29
  go_wp2
  go_region_o
  all_goals
    go_wp2
    go_ret
    exact ⟨rfl, (Keeps.refl _ w).drew⟩
/-- What a builder holds, as a text. -/
theorem istring_any (b o : Nat) (T : TypeId) (arr : Array Value) (v : Value) (l : List UInt8) (w : World) (h : BldAt b o T arr v (Lib.byteCells l) w) :
    Calls Tryz.prog 29 #[.pointer (some ⟨b, o, none⟩)] w fun e w' => e = .returned (.string ⟨l.toArray⟩) ∧ Keeps (fun i => v.ownBlock = some i) w w' := by
  by_cases h0 : l = []
  · subst h0
    exact (istring_none b o T arr v w h).mono fun e w' k => ⟨k.1, k.2.mono fun _ _ e => e.elim⟩
  · exact istring_some b o T arr v l w h h0
end Go.Proofs.YtabhpbkkjijfjaaGreatDoor
