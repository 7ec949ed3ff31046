/-
  strings.Split at one byte.
-/
import Derived.Shelf.Strings.Split
import Derived.Test.YtdmamecfmfhlmaaGreatDoorZSpeechWrites23
namespace Go.Proofs.YtdmamecfmfhlmaaGreatDoor
set_option maxRecDepth 100000
open Go.RowKit Go.Shelf
def lgs_ren : Go.Shelf.Ren := ⟨fun | 221 => 36 | 268 => 52 | 138 => 53 | 143 => 54 | 195 => 72 | 197 => 73 | 218 => 74 | 219 => 75 | 260 => 82 | 217 => 83 | 225 => 84 | 224 => 85 | 267 => 86 | 266 => 93 | 314 => 94 | n => n, fun | 9 => 9 | 3 => 3 | 31 => 41 | 4 => 4 | 0 => 0 | 105 => 107 | 21 => 21 | 5 => 5 | 46 => 62 | 119 => 121 | 139 => 124 | 138 => 123 | 146 => 125 | 51 => 94 | n => n, fun | 1 => 4 | 3 => 7 | 4 => 8 | n => n⟩
theorem lgs : Go.Proofs.Lays.n221 Tryz.prog lgs_ren := {
  mixed := by kernel_rfl
  f138 := Tryz.func53.trans (congrArg some (by kernel_rfl))
  f143 := Tryz.func54.trans (congrArg some (by kernel_rfl))
  f195 := Tryz.func72.trans (congrArg some (by kernel_rfl))
  f197 := Tryz.func73.trans (congrArg some (by kernel_rfl))
  f217 := Tryz.func83.trans (congrArg some (by kernel_rfl))
  f218 := Tryz.func74.trans (congrArg some (by kernel_rfl))
  f219 := Tryz.func75.trans (congrArg some (by kernel_rfl))
  f221 := Tryz.func36.trans (congrArg some (by kernel_rfl))
  f224 := Tryz.func85.trans (congrArg some (by kernel_rfl))
  f225 := Tryz.func84.trans (congrArg some (by kernel_rfl))
  f260 := Tryz.func82.trans (congrArg some (by kernel_rfl))
  f266 := Tryz.func93.trans (congrArg some (by kernel_rfl))
  f267 := Tryz.func86.trans (congrArg some (by kernel_rfl))
  f268 := Tryz.func52.trans (congrArg some (by kernel_rfl))
  f314 := Tryz.func94.trans (congrArg some (by kernel_rfl))
  t0 := Tryz.underlying0
  a0 := Tryz.isAgg0
  z0 := Tryz.sizeOf0
  v0 := Tryz.zeroValue0
  t3 := Tryz.underlying3
  a3 := Tryz.isAgg3
  z3 := Tryz.sizeOf3
  v3 := Tryz.zeroValue3
  t4 := Tryz.underlying4
  a4 := Tryz.isAgg4
  z4 := Tryz.sizeOf4
  v4 := Tryz.zeroValue4
  t5 := Tryz.underlying5
  a5 := Tryz.isAgg5
  z5 := Tryz.sizeOf5
  v5 := Tryz.zeroValue5
  t9 := Tryz.underlying9
  a9 := Tryz.isAgg9
  z9 := Tryz.sizeOf9
  v9 := Tryz.zeroValue9
  t21 := Tryz.underlying21
  a21 := Tryz.isAgg21
  z21 := Tryz.sizeOf21
  v21 := Tryz.zeroValue21
  t31 := Tryz.underlying41
  a31 := Tryz.isAgg41
  z31 := Tryz.sizeOf41
  v31 := Tryz.zeroValue41
  t46 := Tryz.underlying62
  a46 := Tryz.isAgg62
  z46 := Tryz.sizeOf62
  v46 := Tryz.zeroValue62
  t51 := Tryz.underlying94
  a51 := Tryz.isAgg94
  z51 := Tryz.sizeOf94
  v51 := Tryz.zeroValue94
  t105 := Tryz.underlying107
  a105 := Tryz.isAgg107
  z105 := Tryz.sizeOf107
  v105 := Tryz.zeroValue107
  t119 := Tryz.underlying121
  a119 := Tryz.isAgg121
  z119 := Tryz.sizeOf121
  t138 := Tryz.underlying123
  a138 := Tryz.isAgg123
  z138 := Tryz.sizeOf123
  v138 := Tryz.zeroValue123
  t139 := Tryz.underlying124
  a139 := Tryz.isAgg124
  z139 := Tryz.sizeOf124
  v139 := Tryz.zeroValue124
  t146 := Tryz.underlying125
  a146 := Tryz.isAgg125
  z146 := Tryz.sizeOf125
  v146 := Tryz.zeroValue125
  g1 := by kernel_rfl
  g3 := by kernel_rfl
  g4 := by kernel_rfl }

theorem infoStrE : (Tryz.prog.info? 9).map (fun i => (i.zero, i.size, i.bytes)) = some (some (.string ByteArray.empty), 1, 16) := by kernel_rfl
set_option maxHeartbeats 1000000 in
theorem genSplit_any (c : UInt8) (C : List UInt8) (w : World) (hC : C.length ≤ 1048576) :
    Calls Tryz.prog 36 #[.string (txt C), .string (txt [c]), .int .i64 0, .int .i64 (-1)] w fun e w' => e = .returned (.slice (some ⟨w.heap.size, 0, none⟩) (splC c C).length (splC c C).length) ∧ w' = w.alloc (.cells (encS (splC c C)).toArray 9) := by
  have hcount : Lib.countB (txt C) ⟨#[c]⟩ = C.count c := by
    show Lib.count (txt C).data.toList [c] = _
    rw [Lib.count_one, txt_data]
  have hcl : C.count c ≤ C.length := List.count_le_length
  have h := Any.strings_genSplit_core lgs infoStrE (txt C) ⟨#[c]⟩ 0 (-1) (C.count c + 1) w (by rw [txt_size]; omega) (show 1 ≤ 1 from Nat.le_refl 1) (Nat.zero_le _)
    (fun x c hx => (Any.strings_Index_one { lgs with } x _ _).mono fun e w' ⟨he, hw⟩ => ⟨by
      rw [he]
      show _ = Ending.returned (.int .i64 (Lib.index x.data.toList [_]))
      rw [index_one], hw⟩)
    ((Any.strings_Count_one { lgs with } (txt C) c w).mono fun e w' ⟨he, hw⟩ => ⟨by
      rw [he, hcount, txt_data]; rfl, hw⟩)
    (by omega) (by omega) (by rw [hcount, txt_size, if_pos (by omega)]; omega)
  have hs : (Lib.splitB ⟨#[c]⟩ 0 (C.count c + 1 - 1) (txt C)).map Value.string = encS (splC c C) := by
    have hd := Lib.splitB_data ⟨#[c]⟩ 0 (C.count c) (txt C)
    rw [txt_data, splitK_all c _ C rfl] at hd
    rw [Nat.add_sub_cancel, encS, ← hd, List.map_map]
    rfl
  have hl : (Lib.splitB ⟨#[c]⟩ 0 (C.count c + 1 - 1) (txt C)).length = C.count c + 1 := by
    rw [Nat.add_sub_cancel]; exact Lib.splitB_all ⟨#[c]⟩ (show 1 ≤ 1 from Nat.le_refl 1) 0 (C.count c) (txt C) hcount
  have hp : (splC c C).length = C.count c + 1 := splC_len c C
  change Calls Tryz.prog 36 _ _ _ at h
  refine h.mono ?_
  rintro e w' ⟨rfl, rfl⟩
  have hcells : Lib.cellsOf (Lib.splitB ⟨#[c]⟩ 0 (C.count c + 1 - 1) (txt C)) (C.count c + 1) = (encS (splC c C)).toArray := by
    have hf := Lib.cellsOf_full (Lib.splitB ⟨#[c]⟩ 0 (C.count c + 1 - 1) (txt C))
    rw [hl] at hf
    rw [hf, hs]
  refine ⟨by rw [hl, hp], ?_⟩
  rw [hcells]
  rfl
theorem split_any (c : UInt8) (C : List UInt8) (w : World) (hC : C.length ≤ 1048576) :
    Calls Tryz.prog 19 #[.string (txt C), .string (txt [c])] w fun e w' => e = .returned (.slice (some ⟨w.heap.size, 0, none⟩) (splC c C).length (splC c C).length) ∧ w' = w.alloc (.cells (encS (splC c C)).toArray 9) := by
  have H := Lib.hid (genSplit_any c C w hC)
  obtain ⟨S, hS⟩ : ∃ S, S = txt C := ⟨_, rfl⟩
  obtain ⟨T, hT⟩ : ∃ T, T = txt [c] := ⟨_, rfl⟩
  obtain ⟨n, hn⟩ : ∃ n, n = (splC c C).length := ⟨_, rfl⟩
  rw [← hS, ← hT, ← hn] at H ⊢
  clear hS hT hn
  go_enter Tryz.func19, Tryz.ntmps19
  go_wp2_with fail
  refine H.out.mono ?_
  rintro e w' ⟨rfl, rfl⟩
  go_wp2_with fail
  go_ret
  exact ⟨rfl, rfl⟩
end Go.Proofs.YtdmamecfmfhlmaaGreatDoor
