/-
  frame.Cut: the whole lines of what was kept and what has come, and what is kept now.
-/
import Derived.Shelf.Strings.Split
import Derived.Shelf.Strings.Prefix
import Derived.Test.YtabhpbkkjijfjaaGreatDoorZHouseLogsCutMath
import Derived.Test.YtabhpbkkjijfjaaGreatDoorZHouseLogs4
namespace Go.Proofs.YtabhpbkkjijfjaaGreatDoor
set_option maxRecDepth 100000
open Go.RowKit Go.Shelf
def lgs_ren : Go.Shelf.Ren := ⟨fun | 221 => 42 | 268 => 60 | 138 => 61 | 143 => 62 | 195 => 92 | 197 => 93 | 218 => 94 | 219 => 95 | 260 => 127 | 217 => 128 | 225 => 129 | 224 => 130 | 267 => 131 | 266 => 158 | 314 => 159 | n => n, fun | 9 => 9 | 3 => 3 | 31 => 34 | 4 => 4 | 0 => 0 | 105 => 179 | 21 => 21 | 5 => 5 | 46 => 212 | 119 => 243 | 139 => 246 | 138 => 245 | 146 => 247 | 51 => 175 | n => n, fun | 1 => 1 | 3 => 2 | 4 => 3 | n => n⟩
theorem lgs : Go.Proofs.Lays.n221 Tryz.prog lgs_ren := {
  mixed := by kernel_rfl
  f138 := Tryz.func61.trans (congrArg some (by kernel_rfl))
  f143 := Tryz.func62.trans (congrArg some (by kernel_rfl))
  f195 := Tryz.func92.trans (congrArg some (by kernel_rfl))
  f197 := Tryz.func93.trans (congrArg some (by kernel_rfl))
  f217 := Tryz.func128.trans (congrArg some (by kernel_rfl))
  f218 := Tryz.func94.trans (congrArg some (by kernel_rfl))
  f219 := Tryz.func95.trans (congrArg some (by kernel_rfl))
  f221 := Tryz.func42.trans (congrArg some (by kernel_rfl))
  f224 := Tryz.func130.trans (congrArg some (by kernel_rfl))
  f225 := Tryz.func129.trans (congrArg some (by kernel_rfl))
  f260 := Tryz.func127.trans (congrArg some (by kernel_rfl))
  f266 := Tryz.func158.trans (congrArg some (by kernel_rfl))
  f267 := Tryz.func131.trans (congrArg some (by kernel_rfl))
  f268 := Tryz.func60.trans (congrArg some (by kernel_rfl))
  f314 := Tryz.func159.trans (congrArg some (by kernel_rfl))
  t0 := Tryz.underlying0
  a0 := Tryz.isAgg0
  z0 := Tryz.sizeOf0
  v0 := Tryz.zeroValue0
  t3 := Tryz.underlying3
  a3 := Tryz.isAgg3
  z3 := Tryz.sizeOf3
  v3 := Tryz.zeroValue3
  t4 := Tryz.underlying4
  a4 := Tryz.isAgg4
  z4 := Tryz.sizeOf4
  v4 := Tryz.zeroValue4
  t5 := Tryz.underlying5
  a5 := Tryz.isAgg5
  z5 := Tryz.sizeOf5
  v5 := Tryz.zeroValue5
  t9 := Tryz.underlying9
  a9 := Tryz.isAgg9
  z9 := Tryz.sizeOf9
  v9 := Tryz.zeroValue9
  t21 := Tryz.underlying21
  a21 := Tryz.isAgg21
  z21 := Tryz.sizeOf21
  v21 := Tryz.zeroValue21
  t31 := Tryz.underlying34
  a31 := Tryz.isAgg34
  z31 := Tryz.sizeOf34
  v31 := Tryz.zeroValue34
  t46 := Tryz.underlying212
  a46 := Tryz.isAgg212
  z46 := Tryz.sizeOf212
  v46 := Tryz.zeroValue212
  t51 := Tryz.underlying175
  a51 := Tryz.isAgg175
  z51 := Tryz.sizeOf175
  v51 := Tryz.zeroValue175
  t105 := Tryz.underlying179
  a105 := Tryz.isAgg179
  z105 := Tryz.sizeOf179
  v105 := Tryz.zeroValue179
  t119 := Tryz.underlying243
  a119 := Tryz.isAgg243
  z119 := Tryz.sizeOf243
  t138 := Tryz.underlying245
  a138 := Tryz.isAgg245
  z138 := Tryz.sizeOf245
  v138 := Tryz.zeroValue245
  t139 := Tryz.underlying246
  a139 := Tryz.isAgg246
  z139 := Tryz.sizeOf246
  v139 := Tryz.zeroValue246
  t146 := Tryz.underlying247
  a146 := Tryz.isAgg247
  z146 := Tryz.sizeOf247
  v146 := Tryz.zeroValue247
  g1 := by kernel_rfl
  g3 := by kernel_rfl
  g4 := by kernel_rfl }

def lhs_ren : Go.Shelf.Ren := ⟨fun | 100 => 32 | 207 => 43 | n => n, fun | 9 => 9 | 4 => 4 | 3 => 3 | n => n, fun | n => n⟩
theorem lhs : Go.Proofs.Lays.n100 Tryz.prog lhs_ren := {
  mixed := by kernel_rfl
  f100 := Tryz.func32.trans (congrArg some (by kernel_rfl))
  f207 := Tryz.func43.trans (congrArg some (by kernel_rfl))
  t3 := Tryz.underlying3
  a3 := Tryz.isAgg3
  z3 := Tryz.sizeOf3
  v3 := Tryz.zeroValue3
  t4 := Tryz.underlying4
  a4 := Tryz.isAgg4
  z4 := Tryz.sizeOf4
  v4 := Tryz.zeroValue4
  t9 := Tryz.underlying9
  a9 := Tryz.isAgg9
  z9 := Tryz.sizeOf9
  v9 := Tryz.zeroValue9 }


theorem index_byte : ∀ (l : List UInt8) (c : UInt8), Lib.index l [c] = Lib.indexByte l c
  | [], c => by simp [Lib.index, Lib.indexByte]
  | a :: l, c => by
    rw [Lib.index, Lib.indexByte, index_byte l c]
    have : ([c] : List UInt8).isPrefixOf (a :: l) = (a == c) := by
      simp only [List.isPrefixOf, Bool.and_true]
      rw [Bool.eq_iff_iff, beq_iff_eq, beq_iff_eq]
      exact eq_comm
    rw [this]
/-- The pieces of what has come. -/
def piecesF (C : List UInt8) : List (List UInt8) := Lib.splitK [10] 1 (C.count 10) C
theorem piece_len : ∀ (k : Nat) (s : List UInt8), ∀ p ∈ Lib.splitK [10] 1 k s, p.length ≤ s.length
  | 0, s, p, hp => by
    rw [Lib.splitK, List.mem_singleton] at hp
    rw [hp]; exact Nat.le_refl _
  | k + 1, s, p, hp => by
    rw [Lib.splitK] at hp
    split at hp
    · rw [List.mem_singleton] at hp; rw [hp]; exact Nat.le_refl _
    · rcases List.mem_cons.1 hp with rfl | hp
      · rw [List.length_take]; omega
      · have := piece_len k _ p hp
        rw [List.length_drop] at this; omega
theorem splitK_len : ∀ (k : Nat) (s : List UInt8), (Lib.splitK [10] 1 k s).length ≤ k + 1
  | 0, s => by simp [Lib.splitK]
  | k + 1, s => by
    rw [Lib.splitK]
    split
    · simp
    · rw [List.length_cons]; have := splitK_len k (s.drop ((Lib.index s [10]).toNat + [(10 : UInt8)].length)); omega
theorem infoStrE : (Tryz.prog.info? 9).map (fun i => (i.zero, i.size, i.bytes)) = some (some (.string ByteArray.empty), 1, 16) := by kernel_rfl
theorem genSplit_any (C : List UInt8) (w : World) (hC : C.length ≤ 1048576) :
    Calls Tryz.prog 42 #[.string (txt C), .string ⟨#[10]⟩, .int .i64 1, .int .i64 (-1)] w fun e w' => e = .returned (.slice (some ⟨w.heap.size, 0, none⟩) (piecesF C).length (piecesF C).length) ∧ w' = w.alloc (.cells (encS (piecesF C)).toArray 9) := by
  have hcount : Lib.countB (txt C) ⟨#[10]⟩ = C.count 10 := by
    show Lib.count (txt C).data.toList [10] = _
    rw [Lib.count_one, txt_data]
  have hcl : C.count 10 ≤ C.length := List.count_le_length
  have h := Any.strings_genSplit_core lgs infoStrE (txt C) ⟨#[10]⟩ 1 (-1) (C.count 10 + 1) w (by rw [txt_size]; omega) (by decide) (by decide)
    (fun x c hx => (Any.strings_Index_one { lgs with } x 10 _).mono fun e w' ⟨he, hw⟩ => ⟨by
      rw [he]
      show _ = Ending.returned (.int .i64 (Lib.index x.data.toList [10]))
      rw [index_byte], hw⟩)
    ((Any.strings_Count_one { lgs with } (txt C) 10 w).mono fun e w' ⟨he, hw⟩ => ⟨by
      rw [he, hcount, txt_data]; rfl, hw⟩)
    (by omega) (by omega) (by rw [hcount, txt_size, if_pos (by omega)]; omega)
  have hs : (Lib.splitB ⟨#[10]⟩ 1 (C.count 10 + 1 - 1) (txt C)).map Value.string = encS (piecesF C) := by
    have hd := Lib.splitB_data ⟨#[10]⟩ 1 (C.count 10) (txt C)
    rw [txt_data] at hd
    rw [Nat.add_sub_cancel, piecesF, encS, show ([10] : List UInt8) = (⟨#[10]⟩ : ByteArray).data.toList from rfl, ← hd, List.map_map]
    rfl
  have hl : (Lib.splitB ⟨#[10]⟩ 1 (C.count 10 + 1 - 1) (txt C)).length = C.count 10 + 1 := by
    rw [Nat.add_sub_cancel]; exact Lib.splitB_all ⟨#[10]⟩ (by decide) 1 (C.count 10) (txt C) hcount
  have hp : (piecesF C).length = C.count 10 + 1 := by rw [← encS_len, ← hs, List.length_map, hl]
  change Calls Tryz.prog 42 _ _ _ at h
  refine h.mono ?_
  rintro e w' ⟨rfl, rfl⟩
  have hcells : Lib.cellsOf (Lib.splitB ⟨#[10]⟩ 1 (C.count 10 + 1 - 1) (txt C)) (C.count 10 + 1) = (encS (piecesF C)).toArray := by
    have hf := Lib.cellsOf_full (Lib.splitB ⟨#[10]⟩ 1 (C.count 10 + 1 - 1) (txt C))
    rw [hl] at hf
    rw [hf, hs]
  refine ⟨by rw [hl, hp], ?_⟩
  rw [hcells]
  rfl
theorem splitAfter_any (C : List UInt8) (w : World) (hC : C.length ≤ 1048576) :
    Calls Tryz.prog 31 #[.string (txt C), .string ⟨#[10]⟩] w fun e w' => e = .returned (.slice (some ⟨w.heap.size, 0, none⟩) (piecesF C).length (piecesF C).length) ∧ w' = w.alloc (.cells (encS (piecesF C)).toArray 9) := by
  have hg := Lib.hid (genSplit_any C w hC)
  obtain ⟨S, hS⟩ : ∃ S, S = txt C := ⟨_, rfl⟩
  rw [← hS] at hg ⊢
  clear hS
  go_enter Tryz.func31, Tryz.ntmps31
  go_wp2_with fail
  refine hg.out.mono ?_
  rintro e w' ⟨rfl, rfl⟩
  go_wp2_with fail
  go_ret
  exact ⟨rfl, rfl⟩
theorem suffix_any (l : List UInt8) (w : World) (hl : l.length ≤ 9223372036854775807) :
    Calls Tryz.prog 32 #[.string (txt l), .string ⟨#[10]⟩] w fun e w' => e = .returned (.bool (decide (l.getLast? = some 10))) ∧ w = w' := by
  have h := Any.strings_HasSuffix lhs (txt l) ⟨#[10]⟩ w (by rw [txt_size]; exact hl)
  change Calls Tryz.prog 32 _ _ _ at h
  refine h.mono ?_
  rintro e w' ⟨rfl, rfl⟩
  refine ⟨?_, rfl⟩
  congr 2
  rw [txt_data]
  show ([10] : List UInt8).isSuffixOf l = _
  rw [Bool.eq_iff_iff, List.isSuffixOf_iff_suffix, decide_eq_true_iff, List.getLast?_eq_some_iff]
  constructor
  · rintro ⟨t, ht⟩; exact ⟨t, ht.symm⟩
  · rintro ⟨t, ht⟩; exact ⟨t, ht.symm⟩
theorem cutP_line {p : List UInt8} {ps : List (List UInt8)} {K : List UInt8} (h : (K ++ p).getLast? = some 10) : cutP (p :: ps) K = (lineF (K ++ p).dropLast :: (cutP ps []).1, (cutP ps []).2) := by rw [cutP, if_pos h]
theorem cutP_go {p : List UInt8} {ps : List (List UInt8)} {K : List UInt8} (h : ¬ (K ++ p).getLast? = some 10) : cutP (p :: ps) K = cutP ps ((K ++ p).take 6001) := by rw [cutP, if_neg h]
/-- What Cut answers. -/
def Cutted (w : World) (K C : List UInt8) (e : Ending) (w' : World) : Prop :=
  ∃ v, e = .returned (.tuple #[v, .string (txt (cutR C K).2)]) ∧ Below w.heap.size w w' ∧ TextsOf w.heap.size w' v (cutR C K).1
theorem cutR_count : ∀ (C K : List UInt8), (cutR C K).1.length ≤ C.length
  | [], K => by simp [cutR]
  | c :: r, K => by
    rw [cutR]
    split
    · have := cutR_count r []; simp; omega
    · have := cutR_count r (if K.length ≤ 6000 then K ++ [c] else K); simp only [List.length_cons]; omega
set_option maxHeartbeats 4000000 in
theorem cut_any (K0 C : List UInt8) (w : World) (hC : C.length ≤ 1048576) (hK : K0.length ≤ 6001) (hn : 10 ∉ K0) :
    Calls Tryz.prog 20 #[.string (txt K0), .string (txt C)] w (Cutted w K0 C) := by
  obtain ⟨i0, hi, hz0, hz1, hz2⟩ := info_parts infoStr
  have hcp : cutP (piecesF C) K0 = cutR C K0 := cutP_eq (C.count 10) C K0 (Nat.le_refl _) hK hn
  have hpl := splitK_len (C.count 10) C
  have hcl : C.count 10 ≤ C.length := List.count_le_length
  have hps : ∀ p ∈ piecesF C, p.length ≤ 1048576 := fun p hp => Nat.le_trans (piece_len (C.count 10) C p hp) hC
  have hsa := splitAfter_any C w hC
  obtain ⟨ps, hP⟩ : ∃ ps, ps = piecesF C := ⟨_, rfl⟩
  rw [show Lib.splitK [10] 1 (C.count 10) C = ps from hP.symm] at hpl
  rw [← hP] at hcp hps hsa
  obtain ⟨n, hN⟩ : ∃ n, n = ps.length := ⟨_, rfl⟩
  rw [← hN] at hpl hsa
  obtain ⟨S, hS⟩ : ∃ S, S = txt C := ⟨_, rfl⟩
  rw [← hS] at hsa ⊢
  have HC := Lib.hid hcp
  have HP := Lib.hid hps
  have HS := Lib.hid hsa
  have HN := Lib.hid hN
  have hn6 : n ≤ 1048577 := by omega
  clear hcp hP hps hsa hN hS hpl hcl hn
  go_enter Tryz.func20, Tryz.ntmps20
  go_wp2_with fail
  refine HS.out.mono ?_
  rintro e w1 ⟨rfl, rfl⟩
  go_wp2_with fail
  go_loopw [0, 6, 13] (fun kept out i wr => ∃ (j : Nat) (K : List UInt8) (ts : List (List UInt8)), i = .int .i64 j ∧ j ≤ n ∧ kept = .string (txt K) ∧ K.length ≤ 6001 ∧ Aside (cutR C K0 = (ts ++ (cutP (ps.drop j) K).1, (cutP (ps.drop j) K).2)) ∧ ts.length ≤ j ∧ Below w.heap.size w wr ∧ wr.heap[w.heap.size]? = some (.cells (encS ps).toArray 9 (0, 0)) ∧ TextsOf (w.heap.size + 1) wr out ts) (fun _ _ i _ => n - (intOf i).toNat)
  case atStart => exact ⟨0, K0, [], rfl, Nat.zero_le _, rfl, hK, by show _ = _; rw [← HC.out]; simp, Nat.le_refl _, (Below.refl _ _).alloc (Nat.le_refl _) _, blk_last w _ rfl, TextsOf.nil _ _⟩
  case round =>
    obtain ⟨j, K, ts, rfl, hj, rfl, hKl, HE, htl, hB, hbk, hO⟩ := hrel
    have hz := lt_of_block hbk
    by_cases hlt : j < n
    · obtain ⟨p, hp⟩ : ∃ p, ps[j]? = some p := ⟨ps[j]'(by have := HN.out; omega), by simp⟩
      have hpl := HP.out p (List.mem_of_getElem? hp)
      have hdr : ps.drop j = p :: ps.drop (j + 1) := by
        obtain ⟨hl, rfl⟩ := List.getElem?_eq_some_iff.1 hp
        exact List.drop_eq_getElem_cons hl
      have x0 : wr.cell? ⟨w.heap.size, j, none⟩ = some (.string (txt p)) := by
        rw [Joins.cell_of_block hbk]; simp [encS, hp]
      obtain ⟨Sp, hSp⟩ : ∃ Sp, Sp = txt p := ⟨_, rfl⟩
      obtain ⟨Sk, hSk⟩ : ∃ Sk, Sk = txt K := ⟨_, rfl⟩
      obtain ⟨M, hM⟩ : ∃ M, M = K ++ p := ⟨_, rfl⟩
      obtain ⟨Sm, hSm⟩ : ∃ Sm, Sm = txt M := ⟨_, rfl⟩
      have had : ∀ W : World, (Op.stringOp .add Sk Sp).run Tryz.prog W = .ok (.string Sm) W := fun W => by
        rw [hSk, hSp, hSm, hM, run_string_add_sum (P := Tryz.prog) W _ _ (by rw [txt_size, txt_size]; omega), txt_add]
      have hml : M.length = K.length + p.length := by rw [hM, List.length_append]
      have hsm : Sm.size = M.length := by rw [hSm, txt_size]
      have hsf := fun W => suffix_any M W (by omega)
      rw [← hSm] at hsf
      rw [← hSp] at x0
      rw [← hSk]
      have HF := Lib.hid hsf
      have HDR := Lib.hid hdr
      have HM := Lib.hid hM
      have HSM := Lib.hid hSm
      clear hsf hp hdr hM hSm hSp hSk
      by_cases h10 : M.getLast? = some 10
      · have hmp : 1 ≤ M.length := by
          rcases Nat.eq_zero_or_pos M.length with h | h
          · rw [List.eq_nil_of_length_eq_zero h] at h10; cases h10
          · exact h
        have hd : decide (M.getLast? = some 10) = true := by simp [h10]
        rw [hd] at HF
        have hex : Sm.extract 0 (M.length - 1) = txt M.dropLast := by rw [HSM.out, extract_list, List.drop_zero, List.dropLast_eq_take]
        obtain ⟨Sq, hSl⟩ : ∃ Sq, Sq = txt M.dropLast := ⟨_, rfl⟩
        rw [← hSl] at hex
        have hsl : Sq.size = M.length - 1 := by rw [hSl, txt_size, List.length_dropLast]
        obtain ⟨va, vc, rfl⟩ := hO.form
        obtain ⟨q, hq⟩ : ∃ q, q = ts.length := ⟨_, rfl⟩
        unfold TextsOf at hO
        rw [← hq] at hO htl ⊢
        have HO := Lib.hid hO
        have HQ := Lib.hid hq
        have H10 := Lib.hid h10
        have HSL := Lib.hid hSl
        obtain ⟨m, hm⟩ : ∃ m, m = M.length := ⟨_, rfl⟩
        rw [← hm] at hmp hex hsl hsm hml
        have HML := Lib.hid hm
        have h1 : (0 : Int) ≤ (m : Int) - 1 := by omega
        clear hO hq h10 hSl hm hd
        by_cases hlong : 6000 < m - 1
        · have hl2 : (6000 : Int) < ((m - 1 : Nat) : Int) := by omega
          have hlf : lineF M.dropLast = [0] := by rw [lineF, if_pos (by rw [List.length_dropLast, ← HML.out]; exact hlong)]
          have HLF := Lib.hid hlf
          clear hlf
          go_wp2_with (first | (go_at_call 32; with_reducible refine (HF.out _).mono ?_; rintro e w3 ⟨rfl, rfl⟩) | (at_builtin; refine wpList_append_lies _ rfl _ _ 34 rfl (w.heap.size + 1) 9 i0 _ 1 16 Tryz.underlying34 hi hz0 hz1 hz2 rfl (by omega) (.slice va q vc) q (encS ts) rfl (HO.out.alloc _) ⟨wr.heap.size, 0, none⟩ 1 1 [.string ⟨#[0]⟩] rfl rfl (news_alloc _ _ _ (by simp)) (by simp [Value.oneCell']) (by omega) (by unfold maxLen; omega) (by omega) (by simp; omega) (wr.heap.size + 1) (by simp) ?_; intro g cap1 w4 hown1 hgrow1 hat1 hlt1))
          have hbk4 := blk_grown hgrow1 (blk_alloc hbk _) (fun e => by have := (HO.out.lt _ e.symm).1; omega)
          refine ⟨⟨j + 1, [], ts ++ [lineF M.dropLast], by go_num, by omega, rfl, by simp, ?_, by rw [List.length_append, ← HQ.out]; simp; omega, (hB.alloc (by omega) _).grown hgrow1 (by simp; omega) (fun y hy => by have := (HO.out.lt y hy).1; omega), hbk4, ?_⟩, by simp [intOf]; omega⟩
          · show _ = _
            rw [HE.out, HDR.out, cutP_line (by rw [← HM.out]; exact H10.out), ← HM.out]
            simp
          · have hen : encS (ts ++ [lineF M.dropLast]) = encS ts ++ [.string ⟨#[0]⟩] := by rw [encS_append, HLF.out]; rfl
            rw [TextsOf, List.length_append, List.length_singleton, hen, ← HQ.out]
            exact hown1

        · have hl2 : ((m - 1 : Nat) : Int) ≤ 6000 := by omega
          have hlf : lineF M.dropLast = M.dropLast := by rw [lineF, if_neg (by rw [List.length_dropLast, ← HML.out]; exact hlong)]
          have HLF := Lib.hid hlf
          clear hlf hml
          go_wp2_with (first | (go_at_call 32; with_reducible refine (HF.out _).mono ?_; rintro e w3 ⟨rfl, rfl⟩) | (at_builtin; refine wpList_append_lies _ rfl _ _ 34 rfl (w.heap.size + 1) 9 i0 _ 1 16 Tryz.underlying34 hi hz0 hz1 hz2 rfl (by omega) (.slice va q vc) q (encS ts) rfl (HO.out.alloc _) ⟨wr.heap.size, 0, none⟩ 1 1 [.string Sq] rfl rfl (news_alloc _ _ _ rfl) (by intro u hu; rw [List.mem_singleton.1 hu]; rfl) (by omega) (by unfold maxLen; omega) (by omega) (by simp; omega) (wr.heap.size + 1) (by simp) ?_; intro g cap1 w4 hown1 hgrow1 hat1 hlt1))
          have hbk4 := blk_grown hgrow1 (blk_alloc hbk _) (fun e => by have := (HO.out.lt _ e.symm).1; omega)
          refine ⟨⟨j + 1, [], ts ++ [lineF M.dropLast], by go_num, by omega, rfl, by simp, ?_, by rw [List.length_append, ← HQ.out]; simp; omega, (hB.alloc (by omega) _).grown hgrow1 (by simp; omega) (fun y hy => by have := (HO.out.lt y hy).1; omega), hbk4, ?_⟩, by simp [intOf]; omega⟩
          · show _ = _
            rw [HE.out, HDR.out, cutP_line (by rw [← HM.out]; exact H10.out), ← HM.out]
            simp
          · have hen : encS (ts ++ [lineF M.dropLast]) = encS ts ++ [.string Sq] := by rw [encS_append, HLF.out, HSL.out]; rfl
            rw [TextsOf, List.length_append, List.length_singleton, hen, ← HQ.out]
            exact hown1

      · have hd : decide (M.getLast? = some 10) = false := by simp [h10]
        rw [hd] at HF
        have hres : Aside (cutR C K0 = (ts ++ (cutP (ps.drop (j + 1)) (M.take 6001)).1, (cutP (ps.drop (j + 1)) (M.take 6001)).2)) := by
          show _ = _
          rw [HE.out, HDR.out, cutP_go (by rw [← HM.out]; exact h10), ← HM.out]
        have hex : Sm.extract 0 6001 = txt (M.take 6001) := by rw [HSM.out, extract_list, List.drop_zero]
        have HX := Lib.hid hex
        obtain ⟨m, hm⟩ : ∃ m, m = M.length := ⟨_, rfl⟩
        rw [← hm] at hsm hml
        have HML := Lib.hid hm
        clear h10 hd hex hm
        by_cases hlong : 6001 < m
        · have hl2 : (6001 : Int) < (m : Int) := by omega
          go_wp2_with ((go_at_call 32; with_reducible refine (HF.out _).mono ?_; rintro e w3 ⟨rfl, rfl⟩))
          exact ⟨⟨j + 1, M.take 6001, ts, by go_num, by omega, by rw [HX.out], by simp; omega, hres, by omega, hB, hbk, hO⟩, by simp [intOf]; omega⟩
        · have hl2 : (m : Int) ≤ 6001 := by omega
          have htk : M.take 6001 = M := List.take_of_length_le (by rw [← HML.out]; omega)
          rw [htk] at hres
          have hml2 : M.length ≤ 6001 := by rw [← HML.out]; omega
          have HM2 := Lib.hid hml2
          clear htk hml2
          go_wp2_with ((go_at_call 32; with_reducible refine (HF.out _).mono ?_; rintro e w3 ⟨rfl, rfl⟩))
          exact ⟨⟨j + 1, M, ts, by go_num, by omega, by rw [HSM.out], HM2.out, hres, by omega, hB, hbk, hO⟩, by simp [intOf]; omega⟩
    · obtain rfl : j = n := by omega
      have hres : cutR C K0 = (ts, K) := by
        rw [HE.out, HN.out, List.drop_length]; simp [cutP]
      have HR := Lib.hid hres
      obtain ⟨va, vc, rfl⟩ := hO.form
      obtain ⟨q, hq⟩ : ∃ q, q = ts.length := ⟨_, rfl⟩
      have HO := Lib.hid hO
      rw [← hq]
      have HQ := Lib.hid hq
      clear hres hO hq
      go_wp2_with fail
      refine bodyPost_ret (v := .tuple #[.slice va q vc, .string (txt K)]) (by simp [results, Tryz.results20, go_sem]) rfl ⟨.slice va q vc, by rw [HR.out], hB, ?_⟩
      rw [HR.out, HQ.out]
      exact Joins.ownsRow_le HO.out (Nat.le_succ _)
end Go.Proofs.YtabhpbkkjijfjaaGreatDoor
