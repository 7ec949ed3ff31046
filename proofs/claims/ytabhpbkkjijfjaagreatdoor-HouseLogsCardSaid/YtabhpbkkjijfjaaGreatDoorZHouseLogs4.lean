/-
  Rows of texts of one's own; two of them compared; strings.Split at one byte; What a method comes to that changes its receiver's memory; speech.Read of the line "?".
-/
import Derived.Shelf.Strings.Split
import Derived.Test.YtabhpbkkjijfjaaGreatDoorZHouseLogs2
import Derived.Test.YtabhpbkkjijfjaaGreatDoorZHouseLogsFoot
namespace Go.Proofs.YtabhpbkkjijfjaaGreatDoor
set_option maxRecDepth 100000
open Go.RowKit

theorem infoStr : (Tryz.prog.info? 9).map (fun i => (i.zero, i.size, i.bytes)) = some (some (.string ⟨#[]⟩), 1, 16) := by kernel_rfl
def encS (ts : List (List UInt8)) : List Value := ts.map fun t => .string (txt t)
theorem encS_append (a b : List (List UInt8)) : encS (a ++ b) = encS a ++ encS b := by simp [encS]
theorem encS_len (a : List (List UInt8)) : (encS a).length = a.length := by simp [encS]
def TextsOf (base : Nat) (w : World) (v : Value) (ts : List (List UInt8)) : Prop := w.ownsRow base 9 1 v ts.length (encS ts)
theorem TextsOf.nil (base : Nat) (w : World) : TextsOf base w (.slice none 0 0) [] := World.ownsRow_nil _ _ _ _
theorem TextsOf.below {base : Nat} {w w' : World} {v : Value} {ts : List (List UInt8)} (h : TextsOf base w v ts) (hb : Below w.heap.size w w') : TextsOf base w' v ts := own_below h hb
theorem TextsOf.form {base : Nat} {w : World} {v : Value} {ts : List (List UInt8)} (h : TextsOf base w v ts) : ∃ a c, v = .slice a ts.length c := own_form h
theorem TextsOf.sl {base : Nat} {w : World} {a : Option Addr} {c : Nat} {ts : List (List UInt8)} (h : TextsOf base w (.slice a ts.length c) ts) (hb : ts.length * 16 ≤ 140737488351232) : Sl w 1 16 a ts.length c (encS ts) := by
  obtain ⟨a', c', e, hs⟩ := sl_of_own h hb
  simp only [Value.slice.injEq, true_and] at e
  obtain ⟨rfl, rfl⟩ := e
  exact hs
end Go.Proofs.YtabhpbkkjijfjaaGreatDoor
namespace Go.Proofs.YtabhpbkkjijfjaaGreatDoor
set_option maxRecDepth 100000
open Go.RowKit Go.Shelf
def lgsS_ren : Go.Shelf.Ren := ⟨fun | 221 => 42 | 268 => 60 | 138 => 61 | 143 => 62 | 195 => 92 | 197 => 93 | 218 => 94 | 219 => 95 | 260 => 127 | 217 => 128 | 225 => 129 | 224 => 130 | 267 => 131 | 266 => 158 | 314 => 159 | n => n, fun | 9 => 9 | 3 => 3 | 31 => 34 | 4 => 4 | 0 => 0 | 105 => 179 | 21 => 21 | 5 => 5 | 46 => 212 | 119 => 243 | 139 => 246 | 138 => 245 | 146 => 247 | 51 => 175 | n => n, fun | 1 => 1 | 3 => 2 | 4 => 3 | n => n⟩
theorem lgsS : Go.Proofs.Lays.n221 Tryz.prog lgsS_ren := {
  mixed := by kernel_rfl
  f138 := Tryz.func61.trans (congrArg some (by kernel_rfl))
  f143 := Tryz.func62.trans (congrArg some (by kernel_rfl))
  f195 := Tryz.func92.trans (congrArg some (by kernel_rfl))
  f197 := Tryz.func93.trans (congrArg some (by kernel_rfl))
  f217 := Tryz.func128.trans (congrArg some (by kernel_rfl))
  f218 := Tryz.func94.trans (congrArg some (by kernel_rfl))
  f219 := Tryz.func95.trans (congrArg some (by kernel_rfl))
  f221 := Tryz.func42.trans (congrArg some (by kernel_rfl))
  f224 := Tryz.func130.trans (congrArg some (by kernel_rfl))
  f225 := Tryz.func129.trans (congrArg some (by kernel_rfl))
  f260 := Tryz.func127.trans (congrArg some (by kernel_rfl))
  f266 := Tryz.func158.trans (congrArg some (by kernel_rfl))
  f267 := Tryz.func131.trans (congrArg some (by kernel_rfl))
  f268 := Tryz.func60.trans (congrArg some (by kernel_rfl))
  f314 := Tryz.func159.trans (congrArg some (by kernel_rfl))
  t0 := Tryz.underlying0
  a0 := Tryz.isAgg0
  z0 := Tryz.sizeOf0
  v0 := Tryz.zeroValue0
  t3 := Tryz.underlying3
  a3 := Tryz.isAgg3
  z3 := Tryz.sizeOf3
  v3 := Tryz.zeroValue3
  t4 := Tryz.underlying4
  a4 := Tryz.isAgg4
  z4 := Tryz.sizeOf4
  v4 := Tryz.zeroValue4
  t5 := Tryz.underlying5
  a5 := Tryz.isAgg5
  z5 := Tryz.sizeOf5
  v5 := Tryz.zeroValue5
  t9 := Tryz.underlying9
  a9 := Tryz.isAgg9
  z9 := Tryz.sizeOf9
  v9 := Tryz.zeroValue9
  t21 := Tryz.underlying21
  a21 := Tryz.isAgg21
  z21 := Tryz.sizeOf21
  v21 := Tryz.zeroValue21
  t31 := Tryz.underlying34
  a31 := Tryz.isAgg34
  z31 := Tryz.sizeOf34
  v31 := Tryz.zeroValue34
  t46 := Tryz.underlying212
  a46 := Tryz.isAgg212
  z46 := Tryz.sizeOf212
  v46 := Tryz.zeroValue212
  t51 := Tryz.underlying175
  a51 := Tryz.isAgg175
  z51 := Tryz.sizeOf175
  v51 := Tryz.zeroValue175
  t105 := Tryz.underlying179
  a105 := Tryz.isAgg179
  z105 := Tryz.sizeOf179
  v105 := Tryz.zeroValue179
  t119 := Tryz.underlying243
  a119 := Tryz.isAgg243
  z119 := Tryz.sizeOf243
  t138 := Tryz.underlying245
  a138 := Tryz.isAgg245
  z138 := Tryz.sizeOf245
  v138 := Tryz.zeroValue245
  t139 := Tryz.underlying246
  a139 := Tryz.isAgg246
  z139 := Tryz.sizeOf246
  v139 := Tryz.zeroValue246
  t146 := Tryz.underlying247
  a146 := Tryz.isAgg247
  z146 := Tryz.sizeOf247
  v146 := Tryz.zeroValue247
  g1 := by kernel_rfl
  g3 := by kernel_rfl
  g4 := by kernel_rfl }

theorem infoStrS : (Tryz.prog.info? 9).map (fun i => (i.zero, i.size, i.bytes)) = some (some (.string ByteArray.empty), 1, 16) := by kernel_rfl
set_option maxHeartbeats 1000000 in
theorem genSplitS_any (c : UInt8) (C : List UInt8) (w : World) (hC : C.length ≤ 1048576) :
    Calls Tryz.prog 42 #[.string (txt C), .string (txt [c]), .int .i64 0, .int .i64 (-1)] w fun e w' => e = .returned (.slice (some ⟨w.heap.size, 0, none⟩) (splC c C).length (splC c C).length) ∧ w' = w.alloc (.cells (encS (splC c C)).toArray 9) := by
  have hcount : Lib.countB (txt C) ⟨#[c]⟩ = C.count c := by
    show Lib.count (txt C).data.toList [c] = _
    rw [Lib.count_one, txt_data]
  have hcl : C.count c ≤ C.length := List.count_le_length
  have h := Any.strings_genSplit_core lgsS infoStrS (txt C) ⟨#[c]⟩ 0 (-1) (C.count c + 1) w (by rw [txt_size]; omega) (show 1 ≤ 1 from Nat.le_refl 1) (Nat.zero_le _)
    (fun x c hx => (Any.strings_Index_one { lgsS with } x _ _).mono fun e w' ⟨he, hw⟩ => ⟨by
      rw [he]
      show _ = Ending.returned (.int .i64 (Lib.index x.data.toList [_]))
      rw [index_oneS], hw⟩)
    ((Any.strings_Count_one { lgsS with } (txt C) c w).mono fun e w' ⟨he, hw⟩ => ⟨by
      rw [he, hcount, txt_data]; rfl, hw⟩)
    (by omega) (by omega) (by rw [hcount, txt_size, if_pos (by omega)]; omega)
  have hs : (Lib.splitB ⟨#[c]⟩ 0 (C.count c + 1 - 1) (txt C)).map Value.string = encS (splC c C) := by
    have hd := Lib.splitB_data ⟨#[c]⟩ 0 (C.count c) (txt C)
    rw [txt_data, splitK_all c _ C rfl] at hd
    rw [Nat.add_sub_cancel, encS, ← hd, List.map_map]
    rfl
  have hl : (Lib.splitB ⟨#[c]⟩ 0 (C.count c + 1 - 1) (txt C)).length = C.count c + 1 := by
    rw [Nat.add_sub_cancel]; exact Lib.splitB_all ⟨#[c]⟩ (show 1 ≤ 1 from Nat.le_refl 1) 0 (C.count c) (txt C) hcount
  have hp : (splC c C).length = C.count c + 1 := splC_len c C
  change Calls Tryz.prog 42 _ _ _ at h
  refine h.mono ?_
  rintro e w' ⟨rfl, rfl⟩
  have hcells : Lib.cellsOf (Lib.splitB ⟨#[c]⟩ 0 (C.count c + 1 - 1) (txt C)) (C.count c + 1) = (encS (splC c C)).toArray := by
    have hf := Lib.cellsOf_full (Lib.splitB ⟨#[c]⟩ 0 (C.count c + 1 - 1) (txt C))
    rw [hl] at hf
    rw [hf, hs]
  refine ⟨by rw [hl, hp], ?_⟩
  rw [hcells]
  rfl
theorem split_any (c : UInt8) (C : List UInt8) (w : World) (hC : C.length ≤ 1048576) :
    Calls Tryz.prog 45 #[.string (txt C), .string (txt [c])] w fun e w' => e = .returned (.slice (some ⟨w.heap.size, 0, none⟩) (splC c C).length (splC c C).length) ∧ w' = w.alloc (.cells (encS (splC c C)).toArray 9) := by
  have H := Lib.hid (genSplitS_any c C w hC)
  obtain ⟨S, hS⟩ : ∃ S, S = txt C := ⟨_, rfl⟩
  obtain ⟨T, hT⟩ : ∃ T, T = txt [c] := ⟨_, rfl⟩
  obtain ⟨n, hn⟩ : ∃ n, n = (splC c C).length := ⟨_, rfl⟩
  rw [← hS, ← hT, ← hn] at H ⊢
  clear hS hT hn
  go_enter Tryz.func45, Tryz.ntmps45
  go_wp2_with fail
  refine H.out.mono ?_
  rintro e w' ⟨rfl, rfl⟩
  go_wp2_with fail
  go_ret
  exact ⟨rfl, rfl⟩
end Go.Proofs.YtabhpbkkjijfjaaGreatDoor
namespace Go.Proofs.YtabhpbkkjijfjaaGreatDoor
set_option maxRecDepth 100000
open Go.RowKit

/-- What a method that changes its receiver's memory comes to: it answers v, what it leaves is At, in the same blocks or new ones; nothing else has turned. -/
def Mut (w : World) (F : Nat → Prop) (At : World → (Nat → Prop) → Prop) (v : Value) (e : Ending) (w' : World) : Prop :=
  e = .returned v ∧ ∃ F', At w' F' ∧ (∀ i, F' i → F i ∨ w.heap.size ≤ i) ∧ Keeps F w w'
theorem Mut.same {w : World} {F : Nat → Prop} {At : World → (Nat → Prop) → Prop} {v : Value} (h : At w F) : Mut w F At v (.returned v) w := ⟨rfl, F, h, fun _ hi => .inl hi, Keeps.refl _ _⟩
end Go.Proofs.YtabhpbkkjijfjaaGreatDoor
namespace Go.Proofs.YtabhpbkkjijfjaaGreatDoor
set_option maxRecDepth 100000
open Go.RowKit

set_option maxHeartbeats 4000000 in
set_option maxRecDepth 100000 in
theorem word_quest (p g : Nat) (S : ByteArray) (w : World) (hb : w.heap[p]? = some (.cells #[.slice (some ⟨g, 0, none⟩) 1 1, .bool false] 121 (0, 0))) (hg : w.cell? ⟨g, 0, none⟩ = some (.string S)) :
    Calls Tryz.prog 46 #[.pointer (some ⟨p, 0, none⟩)] w fun e w' => e = .returned (.string S) ∧ Keeps (fun i => i = p) w w' := by
  have p0 := Joins.cell_of_block hb 0
  have z0 := Joins.unfrozen_of_block hb 0
  simp at p0
  clear hb
  go_enter Tryz.func46, Tryz.ntmps46
  go_wp2_with fail
  go_ret
  exact ⟨rfl, (Keeps.refl (fun i => i = p) w).setCell (p := ⟨p, 0, none⟩) (fun _ => rfl) _⟩
def zeroQ : Array Value := #[.int .i64 0, .string ⟨#[]⟩, .string ⟨#[]⟩, .int .i64 0, .int .i64 0, .int .i64 0, .slice none 0 0]
theorem wp_namedQ {P : Program} {c : Code} {Q : Exit → Act → World → Prop} {a : Act} {w : World} (h : ∀ W, W = w → c.wp P Q a W) : c.wp P Q a w := h w rfl
set_option maxHeartbeats 8000000 in
set_option maxRecDepth 100000 in
theorem read_quest (w : World) :
    Calls Tryz.prog 36 #[.string (txt [63])] w fun e w' => e = .returned (.tuple #[.agg zeroQ, .int .i64 4]) ∧ Below w.heap.size w w' := by
  have HS := Lib.hid (fun W => split_any 32 [63] W (by decide))
  have es : splC 32 [63] = [[63]] := by decide
  rw [es] at HS
  obtain ⟨S, hS⟩ : ∃ S, S = txt [63] := ⟨_, rfl⟩
  have hsz : S.size = 1 := by rw [hS]; rfl
  have h32 : (txt [32]) = ({ data := #[32] } : ByteArray) := rfl
  have henc : (encS [[63]]).toArray = #[.string S] := by rw [hS]; rfl
  have hl : S.toList = [63] := by rw [hS, txt_toList]
  rw [← hS, h32, henc] at HS
  rw [← hS]
  clear hS h32 henc es
  go_enter Tryz.func36, Tryz.ntmps36
  go_wp2_with fail
  refine (HS.out _).mono ?_
  rintro e w1 ⟨rfl, rfl⟩
  go_upto_region 5 with fail
  refine wp_namedQ ?_
  intro W0 hW0
  have b0 : W0.heap[w.heap.size]? = some (.cells zeroQ 103 (0, 0)) := by rw [hW0]; exact blk_alloc (blk_alloc (blk_alloc (blk_last w _ rfl) _) _) _
  have b2 : W0.heap[w.heap.size + 1 + 1]? = some (.cells #[.slice (some ⟨w.heap.size + 1, 0, none⟩) 1 1, .bool false] 121 (0, 0)) := by rw [hW0]; exact blk_alloc (blk_last _ _ (by simp)) _
  have b1 : W0.heap[w.heap.size + 1]? = some (.cells #[.string S] 9 (0, 0)) := by rw [hW0]; exact blk_alloc (blk_alloc (blk_last _ _ (by simp)) _) _
  have hB0 : Below w.heap.size w W0 := by rw [hW0]; exact ((((Below.refl _ _).alloc (Nat.le_refl _) _).alloc (by simp) _).alloc (by simp; omega) _).alloc (by simp; omega) _
  have HW := Lib.hid (word_quest (w.heap.size + 1 + 1) (w.heap.size + 1) S W0 b2 (Joins.cell_of_block b1 0))
  have HB0 := Lib.hid hB0
  have HR0 := Lib.hid b0
  clear hW0 b0 b1 b2 hB0 HS
  go_wp2_with fail
  refine HW.out.mono ?_
  rintro e w1 ⟨rfl, k1⟩
  have r1 : w1.heap[w.heap.size]? = some (.cells zeroQ 103 (0, 0)) := (k1.block _ (lt_of_block HR0.out) (by omega)).trans HR0.out
  have HB1 := Lib.hid (HB0.out.trans (k1.toBelow (fun i e => by omega) HB0.out.size))
  have HR1 := Lib.hid r1
  have a0 := Joins.cell_of_block r1 0
  have a1 := Joins.cell_of_block r1 1
  have a2 := Joins.cell_of_block r1 2
  have a3 := Joins.cell_of_block r1 3
  have a4 := Joins.cell_of_block r1 4
  have a5 := Joins.cell_of_block r1 5
  have a6 := Joins.cell_of_block r1 6
  have f0 := Joins.unfrozen_of_block r1 0
  have f1 := Joins.unfrozen_of_block r1 1
  have f2 := Joins.unfrozen_of_block r1 2
  have f3 := Joins.unfrozen_of_block r1 3
  have f4 := Joins.unfrozen_of_block r1 4
  have f5 := Joins.unfrozen_of_block r1 5
  have f6 := Joins.unfrozen_of_block r1 6
  simp [zeroQ] at a0 a1 a2 a3 a4 a5 a6
  clear k1 r1
  go_wp2_with fail
  have hb7 := Joins.block_setCell (i := 6) (Joins.block_setCell (i := 5) (Joins.block_setCell (i := 4) (Joins.block_setCell (i := 3) (Joins.block_setCell (i := 2) (Joins.block_setCell (i := 1) (Joins.block_setCell (i := 0) HR1.out (.int .i64 0)) (.string ⟨#[]⟩)) (.string ⟨#[]⟩)) (.int .i64 0)) (.int .i64 0)) (.int .i64 0)) (.slice none 0 0)
  have hB7 := ((((((HB1.out.setCell (p := ⟨w.heap.size, 0, none⟩) (Nat.le_refl _) (.int .i64 0)).setCell (p := ⟨w.heap.size, 1, none⟩) (Nat.le_refl _) (.string ⟨#[]⟩)).setCell (p := ⟨w.heap.size, 2, none⟩) (Nat.le_refl _) (.string ⟨#[]⟩)).setCell (p := ⟨w.heap.size, 3, none⟩) (Nat.le_refl _) (.int .i64 0)).setCell (p := ⟨w.heap.size, 4, none⟩) (Nat.le_refl _) (.int .i64 0)).setCell (p := ⟨w.heap.size, 5, none⟩) (Nat.le_refl _) (.int .i64 0)).setCell (p := ⟨w.heap.size, 6, none⟩) (Nat.le_refl _) (.slice none 0 0)
  have p0 := Joins.cell_of_block hb7 0
  have p1 := Joins.cell_of_block hb7 1
  have p2 := Joins.cell_of_block hb7 2
  have p3 := Joins.cell_of_block hb7 3
  have p4 := Joins.cell_of_block hb7 4
  have p5 := Joins.cell_of_block hb7 5
  have p6 := Joins.cell_of_block hb7 6
  simp [zeroQ] at p0 p1 p2 p3 p4 p5 p6
  exact bodyPost_ret (v := .tuple #[.agg zeroQ, .int .i64 4]) (by simp [results, Tryz.results36, go_sem, p0, p1, p2, p3, p4, p5, p6, zeroQ]) rfl ⟨rfl, hB7⟩
end Go.Proofs.YtabhpbkkjijfjaaGreatDoor
