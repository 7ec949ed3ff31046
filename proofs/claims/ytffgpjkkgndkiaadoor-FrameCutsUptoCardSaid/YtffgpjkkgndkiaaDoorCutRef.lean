/-
  The document's CutLines: byte by byte.
-/
import Derived.Test.YtffgpjkkgndkiaaDoorCuts
namespace Go.Proofs.YtffgpjkkgndkiaaDoor
set_option maxRecDepth 100000
open Go.RowKit

theorem cutR_ten (r K : List UInt8) : cutR (10 :: r) K = (lineF K :: (cutR r []).1, (cutR r []).2) := by rw [cutR, if_pos rfl]
theorem cutR_grow {c : UInt8} (h : c ≠ 10) {r K : List UInt8} (hk : K.length ≤ 6000) : cutR (c :: r) K = cutR r (K ++ [c]) := by rw [cutR, if_neg h, if_pos hk]
theorem cutR_full {c : UInt8} (h : c ≠ 10) {r K : List UInt8} (hk : ¬ K.length ≤ 6000) : cutR (c :: r) K = cutR r K := by rw [cutR, if_neg h, if_neg hk]
set_option maxHeartbeats 4000000 in
theorem refCut_any (K0 C : List UInt8) (w : World) (hC : C.length ≤ 1048576) (hK : K0.length ≤ 6001) :
    Calls Tryd.prog 12 #[.string (txt K0), .string (txt C)] w (Cutted w K0 C) := by
  obtain ⟨i0, hi, hz0, hz1, hz2⟩ := info_parts infoStr
  obtain ⟨S, hS⟩ : ∃ S, S = txt C := ⟨_, rfl⟩
  obtain ⟨n, hN⟩ : ∃ n, n = C.length := ⟨_, rfl⟩
  have hsz : S.size = n := by rw [hS, hN, txt_size]
  rw [← hN] at hC
  rw [← hS]
  have HS := Lib.hid hS
  have HN := Lib.hid hN
  clear hS hN
  go_enter Tryd.func12, Tryd.ntmps12
  go_wp2_with fail
  go_loopw [6, 7, 8] (fun out line i wr => ∃ (j : Nat) (K : List UInt8) (ts : List (List UInt8)), i = .int .i64 j ∧ j ≤ n ∧ line = .string (txt K) ∧ K.length ≤ 6001 ∧ Aside (cutR C K0 = (ts ++ (cutR (C.drop j) K).1, (cutR (C.drop j) K).2)) ∧ ts.length ≤ j ∧ Below w.heap.size w wr ∧ TextsOf w.heap.size wr out ts) (fun _ _ i _ => n - (intOf i).toNat)
  case atStart => exact ⟨0, K0, [], rfl, Nat.zero_le _, rfl, hK, by show _ = _; simp, Nat.le_refl _, Below.refl _ _, TextsOf.nil _ _⟩
  case round =>
    obtain ⟨j, K, ts, rfl, hj, rfl, hKl, HE, htl, hB, hO⟩ := hrel
    have hz := hB.size
    by_cases hlt : j < n
    · obtain ⟨c, hc⟩ : ∃ c, C[j]? = some c := ⟨C[j]'(by have := HN.out; omega), by simp⟩
      have hdr : C.drop j = c :: C.drop (j + 1) := by
        obtain ⟨hl, rfl⟩ := List.getElem?_eq_some_iff.1 hc
        exact List.drop_eq_getElem_cons hl
      have hi1 : j < S.size := by omega
      have g0 : S[j].toNat = c.toNat := by
        have h := HS.out; subst h
        have : (txt C)[j] = c := (List.getElem?_eq_some_iff.1 hc).2
        rw [this]
      obtain ⟨x, hx⟩ : ∃ x, x = c.toNat := ⟨_, rfl⟩
      rw [← hx] at g0
      have hx256 : x < 256 := by rw [hx]; exact c.toNat_lt
      have HX := Lib.hid hx
      have HDR := Lib.hid hdr
      have w1 : (0 : Int) ≤ (j : Int) + 1 := by omega
      have w2 : (j : Int) + 1 ≤ (n : Int) := by omega
      obtain ⟨q, hq⟩ : ∃ q, q = K.length := ⟨_, rfl⟩
      obtain ⟨T, hT⟩ : ∃ T, T = txt K := ⟨_, rfl⟩
      have hts : T.size = q := by rw [hT, hq, txt_size]
      have HQ := Lib.hid hq
      have HT := Lib.hid hT
      have HKL := Lib.hid hKl
      rw [← hq] at hKl
      rw [← hT]
      have had : ∀ W : World, (Op.stringOp .add T (S.extract j (j + 1))).run Tryd.prog W = .ok (.string (txt (K ++ [c]))) W := fun W => by
        have e : S.extract j (j + 1) = txt [c] := by
          rw [HS.out, extract_list]
          congr 1
          rw [List.drop_take, hdr]; simp
        rw [e, HT.out, run_string_add_sum (P := Tryd.prog) W _ _ (by rw [txt_size, txt_size]; simp; omega), txt_add]
      obtain ⟨T2, hT2⟩ : ∃ T2, T2 = txt (K ++ [c]) := ⟨_, rfl⟩
      rw [← hT2] at had
      have HT2 := Lib.hid hT2
      clear hc hdr hx hT hq hT2
      rcases Decidable.em (x = 10) with rfl | h10
      · have hc10 : c = 10 := UInt8.toNat_inj.1 HX.out.symm
        subst hc10
        obtain ⟨va, vc, rfl⟩ := hO.form
        obtain ⟨t, ht⟩ : ∃ t, t = ts.length := ⟨_, rfl⟩
        unfold TextsOf at hO
        rw [← ht] at hO htl ⊢
        have HO := Lib.hid hO
        have HTL := Lib.hid ht
        clear hO ht
        by_cases hlong : 6000 < q
        · have hl2 : (6000 : Int) < (q : Int) := by omega
          have hlf : lineF K = [0] := by rw [lineF, if_pos (by rw [← HQ.out]; exact hlong)]
          have HLF := Lib.hid hlf
          clear hlf
          go_wp2_with (at_builtin; refine wpList_append_lies _ rfl _ _ 31 rfl w.heap.size 9 i0 _ 1 16 Tryd.underlying31 hi hz0 hz1 hz2 rfl (by omega) (.slice va t vc) t (encS ts) rfl (HO.out.alloc _) ⟨wr.heap.size, 0, none⟩ 1 1 [.string ⟨#[0]⟩] rfl rfl (news_alloc _ _ _ (by simp)) (by simp [Value.oneCell']) (by omega) (by unfold maxLen; omega) (by omega) (by simp; omega) (wr.heap.size + 1) (by simp) ?_; intro g cap1 w4 hown1 hgrow1 hat1 hlt1)
          refine ⟨⟨j + 1, [], ts ++ [lineF K], by go_num, by omega, rfl, by simp, ?_, by rw [List.length_append, ← HTL.out]; simp; omega, (hB.alloc (by omega) _).grown hgrow1 (by simp; omega) (fun y hy => by have := (HO.out.lt y hy).1; omega), ?_⟩, by simp [intOf]; omega⟩
          · show _ = _
            rw [HE.out, HDR.out, cutR_ten]
            simp
          · have hen : encS (ts ++ [lineF K]) = encS ts ++ [.string ⟨#[0]⟩] := by rw [encS_append, HLF.out]; rfl
            rw [TextsOf, List.length_append, List.length_singleton, hen, ← HTL.out]
            exact hown1
        · have hl2 : (q : Int) ≤ 6000 := by omega
          have hlf : lineF K = K := by rw [lineF, if_neg (by rw [← HQ.out]; exact hlong)]
          have HLF := Lib.hid hlf
          clear hlf
          go_wp2_with (at_builtin; refine wpList_append_lies _ rfl _ _ 31 rfl w.heap.size 9 i0 _ 1 16 Tryd.underlying31 hi hz0 hz1 hz2 rfl (by omega) (.slice va t vc) t (encS ts) rfl (HO.out.alloc _) ⟨wr.heap.size, 0, none⟩ 1 1 [.string T] rfl rfl (news_alloc _ _ _ rfl) (by intro u hu; rw [List.mem_singleton.1 hu]; rfl) (by omega) (by unfold maxLen; omega) (by omega) (by simp; omega) (wr.heap.size + 1) (by simp) ?_; intro g cap1 w4 hown1 hgrow1 hat1 hlt1)
          refine ⟨⟨j + 1, [], ts ++ [lineF K], by go_num, by omega, rfl, by simp, ?_, by rw [List.length_append, ← HTL.out]; simp; omega, (hB.alloc (by omega) _).grown hgrow1 (by simp; omega) (fun y hy => by have := (HO.out.lt y hy).1; omega), ?_⟩, by simp [intOf]; omega⟩
          · show _ = _
            rw [HE.out, HDR.out, cutR_ten]
            simp
          · have hen : encS (ts ++ [lineF K]) = encS ts ++ [.string T] := by rw [encS_append, HLF.out, HT.out]; rfl
            rw [TextsOf, List.length_append, List.length_singleton, hen, ← HTL.out]
            exact hown1
      · have hc10 : c ≠ 10 := fun e => h10 (by rw [HX.out, e]; rfl)
        have hb : ((x : Int) == 10) = false := by simp; omega
        by_cases hlong : q ≤ 6000
        · have hl2 : (q : Int) ≤ 6000 := by omega
          go_wp2_with fail
          refine ⟨⟨j + 1, K ++ [c], ts, by go_num, by omega, by rw [HT2.out], by rw [List.length_append, ← HQ.out]; simp; omega, ?_, by omega, hB, hO⟩, by simp [intOf]; omega⟩
          show _ = _
          rw [HE.out, HDR.out, cutR_grow hc10 (by rw [← HQ.out]; exact hlong)]
        · have hl2 : (6000 : Int) < (q : Int) := by omega
          go_wp2_with fail
          refine ⟨⟨j + 1, K, ts, by go_num, by omega, by rw [HT.out], HKL.out, ?_, by omega, hB, hO⟩, by simp [intOf]; omega⟩
          show _ = _
          rw [HE.out, HDR.out, cutR_full hc10 (by rw [← HQ.out]; exact hlong)]
    · obtain rfl : j = n := by omega
      have hres : cutR C K0 = (ts, K) := by
        rw [HE.out, HN.out, List.drop_length]; simp [cutR]
      have HR := Lib.hid hres
      obtain ⟨va, vc, rfl⟩ := hO.form
      obtain ⟨q, hq⟩ : ∃ q, q = ts.length := ⟨_, rfl⟩
      have HO := Lib.hid hO
      rw [← hq]
      have HQ := Lib.hid hq
      clear hres hO hq
      go_wp2_with fail
      refine bodyPost_ret (v := .tuple #[.slice va q vc, .string (txt K)]) (by simp [results, Tryd.results12, go_sem]) rfl ⟨.slice va q vc, by rw [HR.out], hB, ?_⟩
      rw [HR.out, HQ.out]
      exact HO.out
end Go.Proofs.YtffgpjkkgndkiaaDoor
