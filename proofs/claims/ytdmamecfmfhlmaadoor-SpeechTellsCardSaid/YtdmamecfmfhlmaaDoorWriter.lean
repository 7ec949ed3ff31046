/-
  The writer of runs: a builder of text with a column beside it, in a block of its own; copyCheck, WriteByte, WriteString and String at it (the walks follow the shelf's of a builder by itself).
-/
import Derived.Test.YtdmamecfmfhlmaaDoorTexts
import Derived.Test.YtdmamecfmfhlmaaDoorMem
import Derived.Lib.Builder
import Derived.Lib.AppendStr
import Derived.Lib.UnsafeStr
import Derived.Lib.Strings
import Derived.Lib.Walk
import Derived.Laws.Externs
import Derived.Laws.AppendOwn
import Derived.Shelf.Strings.Builder1
namespace Go.Proofs.YtdmamecfmfhlmaaDoor
set_option maxRecDepth 100000
open Go.RowKit Go.Shelf Go.Proofs

/-- Block b is a writer that holds the text T and stands in column c; p: what its builder keeps of its own address. -/
def WrAt (B b : Nat) (p : Value) (T : List UInt8) (c : Int) (w : World) : Prop :=
  B ≤ b ∧ ∃ v, w.heap[b]? = some (.cells #[p, v, .int .i64 c] 70 (0, 0)) ∧ w.ownsRow B 5 1 v T.length (encB T)
def IsWr (B b : Nat) (T : List UInt8) (c : Int) (w : World) : Prop := WrAt B b (.pointer none) T c w ∨ WrAt B b (.pointer (some ⟨b, 0, none⟩)) T c w
theorem wr_other {w : World} {B b n : Nat} {v : Value} {xs : List Value} {p q : Value} {c : Int} (hown : w.ownsRow B 5 1 v n xs) (hb : w.heap[b]? = some (.cells #[p, q, .int .i64 c] 70 (0, 0))) : v.ownBlock ≠ some b := Lib.ownBlock_ne hown hb (by decide)
theorem WrAt.lt {B b : Nat} {p : Value} {T : List UInt8} {c : Int} {w : World} (h : WrAt B b p T c w) : b < w.heap.size := by
  obtain ⟨_, v, h, _⟩ := h
  exact lt_of_block h
theorem IsWr.lt {B b : Nat} {T : List UInt8} {c : Int} {w : World} (h : IsWr B b T c w) : b < w.heap.size := by
  rcases h with h | h <;> exact h.lt
theorem WrAt.below {B b : Nat} {p : Value} {T : List UInt8} {c : Int} {w w' : World} (h : WrAt B b p T c w) (hb : Below w.heap.size w w') : WrAt B b p T c w' := by
  have hl := h.lt
  obtain ⟨hB, v, h1, h2⟩ := h
  exact ⟨hB, v, (hb.block b hl).trans h1, own_below h2 hb⟩
theorem IsWr.below {B b : Nat} {T : List UInt8} {c : Int} {w w' : World} (h : IsWr B b T c w) (hb : Below w.heap.size w w') : IsWr B b T c w' := by
  rcases h with h | h
  · exact .inl (h.below hb)
  · exact .inr (h.below hb)
theorem IsWr.fresh {w : World} : IsWr w.heap.size w.heap.size [] 0 (w.alloc (.cells #[.pointer none, .slice none 0 0, .int .i64 0] 70)) :=
  .inl ⟨Nat.le_refl _, .slice none 0 0, blk_last w _ rfl, World.ownsRow_nil _ _ _ _⟩
/-- What a writer holds, and its place in the column. -/
theorem IsWr.blk {B b : Nat} {T : List UInt8} {c : Int} {w : World} (h : IsWr B b T c w) : ∃ p v, w.heap[b]? = some (.cells #[p, v, .int .i64 c] 70 (0, 0)) := by
  rcases h with ⟨_, v, h, _⟩ | ⟨_, v, h, _⟩ <;> exact ⟨_, v, h⟩
theorem WrAt.col {B b : Nat} {p : Value} {T : List UInt8} {c : Int} {w : World} (h : WrAt B b p T c w) (d : Int) : WrAt B b p T d (w.setCell ⟨b, 2, none⟩ (.int .i64 d)) := by
  obtain ⟨hB, v, h1, h2⟩ := h
  exact ⟨hB, v, by rw [Joins.block_setCell h1]; rfl, ownsRow_setCell_other h2 (wr_other h2 h1) _⟩
theorem IsWr.col {B b : Nat} {T : List UInt8} {c : Int} {w : World} (h : IsWr B b T c w) (d : Int) : IsWr B b T d (w.setCell ⟨b, 2, none⟩ (.int .i64 d)) := by
  rcases h with h | h
  · exact .inl (h.col d)
  · exact .inr (h.col d)
theorem IsWr.base {B b : Nat} {T : List UInt8} {c : Int} {w : World} (h : IsWr B b T c w) : B ≤ b := by
  rcases h with ⟨h, _⟩ | ⟨h, _⟩ <;> exact h

theorem sizeBuilderW : ((Tryd.prog.info? 68).map (fun i => i.size)) = some 2 := by kernel_rfl
theorem liesWriter : liesAt Tryd.prog Tryd.prog.depth 70 (3 / Tryd.prog.cellsOf 70) 0 68 1 = true := by kernel_rfl
set_option maxRecDepth 100000 in
theorem checkW_used (b : Nat) (w : World) (h0 : w.cell? ⟨b, 0, none⟩ = some (.pointer (some ⟨b, 0, none⟩))) :
    Calls Tryd.prog 71 #[.pointer (some ⟨b, 0, none⟩)] w fun e w' => e = .returned (.tuple #[]) ∧ w' = w := by
  obtain ⟨j, hj, _⟩ := Option.map_eq_some_iff.1 sizeBuilderW
  go_enter Tryd.func71, Tryd.ntmps71
  go_wp2
  rw [Lib.run_neq_ptr_same w _ Tryd.underlying65 hj]
  go_wp2
  go_end0
  exact ⟨rfl, rfl⟩
set_option maxRecDepth 100000 in
theorem checkW_fresh (b : Nat) (w : World) (h0 : w.cell? ⟨b, 0, none⟩ = some (.pointer none)) (hsh : w.shape? b = some (70, 3)) (hfz : w.frozen? ⟨b, 0, none⟩ = false) :
    Calls Tryd.prog 71 #[.pointer (some ⟨b, 0, none⟩)] w fun e w' => e = .returned (.tuple #[]) ∧ w' = w.setCell ⟨b, 0, none⟩ (.pointer (some ⟨b, 0, none⟩)) := by
  obtain ⟨j, hj, hjs⟩ := Option.map_eq_some_iff.1 sizeBuilderW
  go_enter Tryd.func71, Tryd.ntmps71
  go_wp2
  rw [Lib.run_to_unsafe w ⟨b, 0, none⟩ Tryd.underlying65 Tryd.underlying143 hj (by rw [hjs]; decide) hsh (Nat.zero_lt_succ 2)]
  simp only [Result.andThen]
  rw [Oper.upon_value]
  go_wp2
  rw [run_callFunc_extern Tryd.func109 (by kernel_rfl) (by kernel_rfl) (by kernel_rfl) (e := Extern.AbiNoEscape.same) (by kernel_rfl)]
  rw [Lib.run_noEscape]
  simp only [Result.andThen]
  rw [Oper.upon_value]
  go_wp2
  rw [Lib.run_from_unsafe w ⟨b, 0, none⟩ Tryd.underlying143 Tryd.underlying65 hj hsh liesWriter]
  simp only [Result.andThen]
  rw [Oper.upon_value]
  go_wp2
  go_end0
  exact ⟨rfl, rfl⟩
theorem checkW_any (B b : Nat) (T : List UInt8) (c : Int) (w : World) (h : IsWr B b T c w) :
    Calls Tryd.prog 71 #[.pointer (some ⟨b, 0, none⟩)] w fun e w' => e = .returned (.tuple #[]) ∧ WrAt B b (.pointer (some ⟨b, 0, none⟩)) T c w' ∧ Below B w w' := by
  rcases h with h | h
  · obtain ⟨hB, v, h1, h2⟩ := h
    refine (checkW_fresh b w (Joins.cell_of_block h1 0) (by simp [World.shape?, h1]) (Joins.unfrozen_of_block h1 0)).mono ?_
    rintro e w' ⟨rfl, rfl⟩
    exact ⟨rfl, ⟨hB, v, by rw [Joins.block_setCell h1]; rfl, ownsRow_setCell_other h2 (wr_other h2 h1) _⟩, (Below.refl B w).setCell (p := ⟨b, 0, none⟩) hB _⟩
  · obtain ⟨hB, v, h1, h2⟩ := h
    refine (checkW_used b w (Joins.cell_of_block h1 0)).mono ?_
    rintro e w' ⟨rfl, rfl⟩
    exact ⟨rfl, ⟨hB, v, h1, h2⟩, Below.refl B _⟩
set_option maxHeartbeats 2000000 in
set_option maxRecDepth 100000 in
theorem writeByteW (B b : Nat) (T : List UInt8) (c : Int) (x : UInt8) (xi : Int) (hx : xi = x.toNat) (w : World) (h : IsWr B b T c w) (hlen : T.length + 1 ≤ 140737488355328) (hBw : B ≤ w.heap.size) :
    Calls Tryd.prog 30 #[.pointer (some ⟨b, 0, none⟩), .int .u8 xi] w fun e w' => e = .returned .nilIface ∧ IsWr B b (T ++ [x]) c w' ∧ Below B w w' := by
  obtain ⟨i0, hi, hz0, hz1, hz2⟩ := info_parts infoByte
  have hT : encB (T ++ [x]) = encB T ++ [.int .u8 xi] := by rw [encB_append, hx]; rfl
  have HT := Lib.hid hT
  have HX := Lib.hid hx
  have HC := Lib.hid (checkW_any B b T c w h)
  clear hT hx h
  go_enter Tryd.func30, Tryd.ntmps30
  go_wp2_with fail
  refine HC.out.mono ?_
  rintro e w1 ⟨rfl, ⟨hB, v, hbk, hown⟩, hb1⟩
  have hne : some b ≠ v.ownBlock := fun e => wr_other hown hbk e.symm
  have hne := Lib.hid hne
  have hz1' := hb1.size
  have c0 : w1.cell? ⟨b, 0, none⟩ = some (.pointer (some ⟨b, 0, none⟩)) := Joins.cell_of_block hbk 0
  have c1 : w1.cell? ⟨b, 1, none⟩ = some v := Joins.cell_of_block hbk 1
  go_wp2_with ((at_builtin; refine wpList_append_lies _ rfl _ _ 66 rfl B 5 i0 _ 1 1 Tryd.underlying66 hi hz0 hz1 hz2 rfl (by omega) v _ _ rfl (hown.alloc _) ⟨w1.heap.size, 0, none⟩ 1 1 [.int .u8 xi] rfl rfl (news_alloc _ _ _ rfl) (by simp [Value.oneCell']) (by omega) (by unfold maxLen; omega) (by omega) (by simp; omega) (w1.heap.size + 1) (by simp) ?_; intro g cap1 w2 hown1 hgrow1 hat1 hlt1; have bb := blk_grown hgrow1 (blk_alloc hbk _) hne.out; have d0 : w2.cell? ⟨b, 0, none⟩ = some (.pointer (some ⟨b, 0, none⟩)) := Joins.cell_of_block bb 0; have d1 : w2.cell? ⟨b, 1, none⟩ = some v := Joins.cell_of_block bb 1; have f1 : w2.frozen? ⟨b, 1, none⟩ = false := Joins.unfrozen_of_block bb 1))
  go_ret
  refine ⟨rfl, .inr ⟨hB, .slice (some ⟨g, 0, none⟩) (T.length + 1) cap1, by rw [Joins.block_setCell bb]; rfl, ?_⟩, ((hb1.alloc (by omega) _).grown hgrow1 (by simp; omega) (fun k hk => (hown.lt k hk).1)).setCell (p := ⟨b, 1, none⟩) hB _⟩
  rw [HT.out, List.length_append]
  exact ownsRow_setCell_other hown1 (wr_other hown1 bb) _
theorem strCells_encB (T : List UInt8) : Lib.strCells (txt T) = encB T := by
  rw [Lib.strCells, txt_data]; rfl
set_option maxHeartbeats 2000000 in
set_option maxRecDepth 100000 in
theorem writeStringW (B b : Nat) (T S : List UInt8) (c : Int) (w : World) (h : IsWr B b T c w) (hlen : T.length + S.length ≤ 140737488355328) (hBw : B ≤ w.heap.size) :
    Calls Tryd.prog 28 #[.pointer (some ⟨b, 0, none⟩), .string (txt S)] w fun e w' => e = .returned (.tuple #[.int .i64 S.length, .nilIface]) ∧ IsWr B b (T ++ S) c w' ∧ Below B w w' := by
  obtain ⟨i0, hi, hz0, hz1, hz2⟩ := info_parts infoByte
  have hT : encB (T ++ S) = encB T ++ Lib.strCells (txt S) := by rw [encB_append, strCells_encB]
  have HT := Lib.hid hT
  have hsz := txt_size S
  obtain ⟨X, hX⟩ : ∃ X, X = txt S := ⟨_, rfl⟩
  rw [← hX] at hsz HT ⊢
  have HC := Lib.hid (checkW_any B b T c w h)
  clear hT h hX
  go_enter Tryd.func28, Tryd.ntmps28
  go_wp2_with fail
  refine HC.out.mono ?_
  rintro e w1 ⟨rfl, ⟨hB, v, hbk, hown⟩, hb1⟩
  have hne : some b ≠ v.ownBlock := fun e => wr_other hown hbk e.symm
  have hne := Lib.hid hne
  have hz1' := hb1.size
  have c0 : w1.cell? ⟨b, 0, none⟩ = some (.pointer (some ⟨b, 0, none⟩)) := Joins.cell_of_block hbk 0
  have c1 : w1.cell? ⟨b, 1, none⟩ = some v := Joins.cell_of_block hbk 1
  go_wp2_with ((at_builtin; refine Lib.wpList_append_own_string _ rfl _ _ 66 9 rfl B 5 i0 Tryd.underlying66 Tryd.underlying9 hi hz0 hz1 hz2 v _ _ rfl hown X rfl (by unfold maxLen; omega) (by omega) (by omega) ?_; intro v' w2 hown1 hgrow1 _; have bb := blk_grown hgrow1 hbk hne.out; have d0 : w2.cell? ⟨b, 0, none⟩ = some (.pointer (some ⟨b, 0, none⟩)) := Joins.cell_of_block bb 0; have d1 : w2.cell? ⟨b, 1, none⟩ = some v := Joins.cell_of_block bb 1; have f1 : w2.frozen? ⟨b, 1, none⟩ = false := Joins.unfrozen_of_block bb 1; obtain ⟨ao, cap1, rfl⟩ := own_form hown1))
  go_ret2
  rw [hsz] at hown1
  refine ⟨rfl, .inr ⟨hB, .slice ao (T.length + S.length) cap1, by rw [Joins.block_setCell bb]; rfl, ?_⟩, (hb1.grown hgrow1 (by omega) (fun k hk => (hown.lt k hk).1)).setCell (p := ⟨b, 1, none⟩) hB _⟩
  rw [HT.out, List.length_append]
  exact ownsRow_setCell_other hown1 (wr_other hown1 bb) _
theorem cellsByteW : Tryd.prog.cellsOf 5 = 1 := by kernel_rfl
set_option maxHeartbeats 2000000 in
set_option maxRecDepth 100000 in
theorem stringW (B b : Nat) (T : List UInt8) (c : Int) (w : World) (h : IsWr B b T c w) (h0 : T ≠ []) :
    Calls Tryd.prog 31 #[.pointer (some ⟨b, 0, none⟩)] w fun e w' => e = .returned (.string (txt T)) ∧ Below B w w' := by
  obtain ⟨p, hB, v, hbk, hown⟩ : ∃ p, WrAt B b p T c w := by
    rcases h with h | h
    · exact ⟨_, h⟩
    · exact ⟨_, h⟩
  have hl0 : T.length ≠ 0 := by simpa using h0
  obtain ⟨g, cap, cur, rfl, hbg, hg, hnc, hcm, hcs, htake⟩ : ∃ g cap cur, v = .slice (some ⟨g, 0, none⟩) T.length cap ∧ B ≤ g ∧ w.heap[g]? = some (.cells cur 5 (0, 0)) ∧ T.length ≤ cap ∧ cap ≤ maxLen ∧ cur.size = cap * 1 ∧ cur.toList.take (T.length * 1) = encB T := by
    rcases hown.2 with ⟨_, hz⟩ | ⟨g, cap, cur, hv, r⟩
    · exact absurd hz hl0
    · exact ⟨g, cap, cur, hv, r⟩
  have c1 : w.drew.cell? ⟨b, 1, none⟩ = some (.slice (some ⟨g, 0, none⟩) T.length cap) := Joins.cell_of_block (w := w.drew) hbk 1
  have hSD : (Builtin.unsafeSliceData_ #[66] 109 #[.slice (some ⟨g, 0, none⟩) T.length cap]).run Tryd.prog w.drew = .ok (.pointer (some ⟨g, 0, none⟩)) w.drew :=
    Lib.run_unsafeSliceData_row _ _ _ _ _ _ (by omega)
  have hUS : (Builtin.unsafeString_ #[109, 3] 9 #[.pointer (some ⟨g, 0, none⟩), .int .i64 T.length]).run Tryd.prog w.drew = .ok (.string ⟨T.toArray⟩) (w.drew.freeze ⟨g, 0, none⟩ T.length) := by
    refine Lib.run_unsafeString_row w.drew 109 3 9 5 Tryd.underlying109 cellsByteW g cur.size (by have hg' : w.drew.heap[g]? = some (.cells cur 5 (0, 0)) := hg; simp [World.shape?, hg']) T h0 (by omega) (by unfold maxLen at hcm; omega) ?_
    intro j x hx
    have := hown.cells (g := g) rfl j (.int .u8 x.toNat) (by simp [encB, hx])
    exact this
  clear hbk hown hg
  go_enter Tryd.func31, Tryd.ntmps31
  go_wp2
  go_region
  all_goals (go_wp2; go_ret; exact ⟨rfl, Lib.below_freeze (Below.drew (Below.refl B w)) (p := ⟨g, 0, none⟩) hbg _⟩)
end Go.Proofs.YtdmamecfmfhlmaaDoor
