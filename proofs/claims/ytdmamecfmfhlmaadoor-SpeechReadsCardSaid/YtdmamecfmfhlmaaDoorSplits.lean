/-
  strings.Split at one byte.
-/
import Derived.Test.YtdmamecfmfhlmaaDoorSplitMath
import Derived.Test.YtdmamecfmfhlmaaDoorTextRow
import Derived.Shelf.Strings.Split
namespace Go.Proofs.YtdmamecfmfhlmaaDoor
set_option maxRecDepth 100000
open Go.RowKit Go.Shelf
def lgs_ren : Go.Shelf.Ren := ⟨fun | 221 => 76 | 268 => 111 | 138 => 112 | 143 => 113 | 195 => 139 | 197 => 140 | 218 => 141 | 219 => 142 | 260 => 154 | 217 => 155 | 225 => 156 | 224 => 157 | 267 => 158 | 266 => 168 | 314 => 169 | n => n, fun | 9 => 9 | 3 => 3 | 31 => 80 | 4 => 4 | 0 => 0 | 105 => 167 | 21 => 21 | 5 => 5 | 46 => 93 | 119 => 192 | 139 => 195 | 138 => 194 | 146 => 196 | 51 => 134 | n => n, fun | 1 => 3 | 3 => 6 | 4 => 7 | n => n⟩
theorem lgs : Go.Proofs.Lays.n221 Tryd.prog lgs_ren := {
  mixed := by kernel_rfl
  f138 := Tryd.func112.trans (congrArg some (by kernel_rfl))
  f143 := Tryd.func113.trans (congrArg some (by kernel_rfl))
  f195 := Tryd.func139.trans (congrArg some (by kernel_rfl))
  f197 := Tryd.func140.trans (congrArg some (by kernel_rfl))
  f217 := Tryd.func155.trans (congrArg some (by kernel_rfl))
  f218 := Tryd.func141.trans (congrArg some (by kernel_rfl))
  f219 := Tryd.func142.trans (congrArg some (by kernel_rfl))
  f221 := Tryd.func76.trans (congrArg some (by kernel_rfl))
  f224 := Tryd.func157.trans (congrArg some (by kernel_rfl))
  f225 := Tryd.func156.trans (congrArg some (by kernel_rfl))
  f260 := Tryd.func154.trans (congrArg some (by kernel_rfl))
  f266 := Tryd.func168.trans (congrArg some (by kernel_rfl))
  f267 := Tryd.func158.trans (congrArg some (by kernel_rfl))
  f268 := Tryd.func111.trans (congrArg some (by kernel_rfl))
  f314 := Tryd.func169.trans (congrArg some (by kernel_rfl))
  t0 := Tryd.underlying0
  a0 := Tryd.isAgg0
  z0 := Tryd.sizeOf0
  v0 := Tryd.zeroValue0
  t3 := Tryd.underlying3
  a3 := Tryd.isAgg3
  z3 := Tryd.sizeOf3
  v3 := Tryd.zeroValue3
  t4 := Tryd.underlying4
  a4 := Tryd.isAgg4
  z4 := Tryd.sizeOf4
  v4 := Tryd.zeroValue4
  t5 := Tryd.underlying5
  a5 := Tryd.isAgg5
  z5 := Tryd.sizeOf5
  v5 := Tryd.zeroValue5
  t9 := Tryd.underlying9
  a9 := Tryd.isAgg9
  z9 := Tryd.sizeOf9
  v9 := Tryd.zeroValue9
  t21 := Tryd.underlying21
  a21 := Tryd.isAgg21
  z21 := Tryd.sizeOf21
  v21 := Tryd.zeroValue21
  t31 := Tryd.underlying80
  a31 := Tryd.isAgg80
  z31 := Tryd.sizeOf80
  v31 := Tryd.zeroValue80
  t46 := Tryd.underlying93
  a46 := Tryd.isAgg93
  z46 := Tryd.sizeOf93
  v46 := Tryd.zeroValue93
  t51 := Tryd.underlying134
  a51 := Tryd.isAgg134
  z51 := Tryd.sizeOf134
  v51 := Tryd.zeroValue134
  t105 := Tryd.underlying167
  a105 := Tryd.isAgg167
  z105 := Tryd.sizeOf167
  v105 := Tryd.zeroValue167
  t119 := Tryd.underlying192
  a119 := Tryd.isAgg192
  z119 := Tryd.sizeOf192
  t138 := Tryd.underlying194
  a138 := Tryd.isAgg194
  z138 := Tryd.sizeOf194
  v138 := Tryd.zeroValue194
  t139 := Tryd.underlying195
  a139 := Tryd.isAgg195
  z139 := Tryd.sizeOf195
  v139 := Tryd.zeroValue195
  t146 := Tryd.underlying196
  a146 := Tryd.isAgg196
  z146 := Tryd.sizeOf196
  v146 := Tryd.zeroValue196
  g1 := by kernel_rfl
  g3 := by kernel_rfl
  g4 := by kernel_rfl }

theorem infoStrE : (Tryd.prog.info? 9).map (fun i => (i.zero, i.size, i.bytes)) = some (some (.string ByteArray.empty), 1, 16) := by kernel_rfl
set_option maxHeartbeats 1000000 in
theorem genSplit_any (c : UInt8) (C : List UInt8) (w : World) (hC : C.length ≤ 1048576) :
    Calls Tryd.prog 76 #[.string (txt C), .string (txt [c]), .int .i64 0, .int .i64 (-1)] w fun e w' => e = .returned (.slice (some ⟨w.heap.size, 0, none⟩) (splC c C).length (splC c C).length) ∧ w' = w.alloc (.cells (encS (splC c C)).toArray 9) := by
  have hcount : Lib.countB (txt C) ⟨#[c]⟩ = C.count c := by
    show Lib.count (txt C).data.toList [c] = _
    rw [Lib.count_one, txt_data]
  have hcl : C.count c ≤ C.length := List.count_le_length
  have h := Any.strings_genSplit_core lgs infoStrE (txt C) ⟨#[c]⟩ 0 (-1) (C.count c + 1) w (by rw [txt_size]; omega) (show 1 ≤ 1 from Nat.le_refl 1) (Nat.zero_le _)
    (fun x c hx => (Any.strings_Index_one { lgs with } x _ _).mono fun e w' ⟨he, hw⟩ => ⟨by
      rw [he]
      show _ = Ending.returned (.int .i64 (Lib.index x.data.toList [_]))
      rw [index_one], hw⟩)
    ((Any.strings_Count_one { lgs with } (txt C) c w).mono fun e w' ⟨he, hw⟩ => ⟨by
      rw [he, hcount, txt_data]; rfl, hw⟩)
    (by omega) (by omega) (by rw [hcount, txt_size, if_pos (by omega)]; omega)
  have hs : (Lib.splitB ⟨#[c]⟩ 0 (C.count c + 1 - 1) (txt C)).map Value.string = encS (splC c C) := by
    have hd := Lib.splitB_data ⟨#[c]⟩ 0 (C.count c) (txt C)
    rw [txt_data, splitK_all c _ C rfl] at hd
    rw [Nat.add_sub_cancel, encS, ← hd, List.map_map]
    rfl
  have hl : (Lib.splitB ⟨#[c]⟩ 0 (C.count c + 1 - 1) (txt C)).length = C.count c + 1 := by
    rw [Nat.add_sub_cancel]; exact Lib.splitB_all ⟨#[c]⟩ (show 1 ≤ 1 from Nat.le_refl 1) 0 (C.count c) (txt C) hcount
  have hp : (splC c C).length = C.count c + 1 := splC_len c C
  change Calls Tryd.prog 76 _ _ _ at h
  refine h.mono ?_
  rintro e w' ⟨rfl, rfl⟩
  have hcells : Lib.cellsOf (Lib.splitB ⟨#[c]⟩ 0 (C.count c + 1 - 1) (txt C)) (C.count c + 1) = (encS (splC c C)).toArray := by
    have hf := Lib.cellsOf_full (Lib.splitB ⟨#[c]⟩ 0 (C.count c + 1 - 1) (txt C))
    rw [hl] at hf
    rw [hf, hs]
  refine ⟨by rw [hl, hp], ?_⟩
  rw [hcells]
  rfl
theorem split_any (c : UInt8) (C : List UInt8) (w : World) (hC : C.length ≤ 1048576) :
    Calls Tryd.prog 37 #[.string (txt C), .string (txt [c])] w fun e w' => e = .returned (.slice (some ⟨w.heap.size, 0, none⟩) (splC c C).length (splC c C).length) ∧ w' = w.alloc (.cells (encS (splC c C)).toArray 9) := by
  have H := Lib.hid (genSplit_any c C w hC)
  obtain ⟨S, hS⟩ : ∃ S, S = txt C := ⟨_, rfl⟩
  obtain ⟨T, hT⟩ : ∃ T, T = txt [c] := ⟨_, rfl⟩
  obtain ⟨n, hn⟩ : ∃ n, n = (splC c C).length := ⟨_, rfl⟩
  rw [← hS, ← hT, ← hn] at H ⊢
  clear hS hT hn
  go_enter Tryd.func37, Tryd.ntmps37
  go_wp2_with fail
  refine H.out.mono ?_
  rintro e w' ⟨rfl, rfl⟩
  go_wp2_with fail
  go_ret
  exact ⟨rfl, rfl⟩
end Go.Proofs.YtdmamecfmfhlmaaDoor
