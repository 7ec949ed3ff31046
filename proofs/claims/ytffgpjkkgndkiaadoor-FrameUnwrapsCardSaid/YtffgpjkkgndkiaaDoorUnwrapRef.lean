/-
  The document's UnwrapTexts.
-/
import Derived.Test.YtffgpjkkgndkiaaDoorUnwraps
import Derived.Test.YtffgpjkkgndkiaaDoorRefFrames
namespace Go.Proofs.YtffgpjkkgndkiaaDoor
set_option maxRecDepth 100000
open Go.RowKit

theorem refF_stop {r t : List UInt8} (hr : 128 ≤ r.length) (h : ¬ (frN (r.take 128) ≤ 126 ∧ frM (r.take 128) ≤ 1)) : refF r t = none := by
  rw [refF, dif_neg (by omega), if_neg h]
theorem refF_last {r t : List UInt8} (hr : 128 ≤ r.length) (h : frN (r.take 128) ≤ 126 ∧ frM (r.take 128) ≤ 1) (hm : frM (r.take 128) = 0) : refF r t = (refF (r.drop 128) []).map ((t ++ frT (r.take 128)) :: ·) := by
  rw [refF, dif_neg (by omega), if_pos h, if_pos hm]
theorem refF_more {r t : List UInt8} (hr : 128 ≤ r.length) (h : frN (r.take 128) ≤ 126 ∧ frM (r.take 128) ≤ 1) (hm : ¬ frM (r.take 128) = 0) : refF r t = refF (r.drop 128) (t ++ frT (r.take 128)) := by
  rw [refF, dif_neg (by omega), if_pos h, if_neg hm]
theorem refF_nil' (t : List UInt8) : refF [] t = some [] := by rw [refF]; simp
theorem wrapsF_snoc (ts : List (List UInt8)) (t : List UInt8) : wrapsF (ts ++ [t]) = wrapsF ts ++ wrapF t := by simp [wrapsF]
theorem unwRes_ref (l : List UInt8) : unwRes l = match unwrapR l with
  | none => ([], 2)
  | some ts => (ts, 0) := by rw [unwrap_eq]; rfl
theorem txt_beq (a b : List UInt8) : ((txt a).toList == (txt b).toList) = decide (a = b) := by
  rw [txt_toList, txt_toList, Bool.eq_iff_iff, beq_iff_eq, decide_eq_true_iff]
set_option maxHeartbeats 4000000 in
theorem refUnwrap_any (l : List UInt8) (w : World) (hl : l.length ≤ 140737488351232) :
    Calls Tryd.prog 15 #[.string (txt l)] w (Unwrapped w l) := by
  obtain ⟨i0, hi, hz0, hz1, hz2⟩ := info_parts infoStr
  obtain ⟨S0, hS0⟩ : ∃ S0, S0 = txt l := ⟨_, rfl⟩
  have hsz0 : S0.size = l.length := by rw [hS0, txt_size]
  obtain ⟨L, hL⟩ : ∃ L, L = l.length := ⟨_, rfl⟩
  rw [← hL] at hsz0 hl
  rw [← hS0]
  have HS0 := Lib.hid hS0
  have HL := Lib.hid hL
  clear hS0 hL
  by_cases hm : L % 128 = 0
  · have hmi : ((L : Int) % 128) = 0 := by omega
    have hun : unwrapR l = match refF l [] with
        | none => none
        | some ts => if wrapsF ts = l then some ts else none := by rw [unwrapR, if_neg (by have := HL.out; omega)]; rfl
    have HU := Lib.hid hun
    clear hun
    go_enter Tryd.func15, Tryd.ntmps15
    go_wp2_with fail
    rw [hmi]
    go_loopw [4, 5, 6, 7] (fun out text again i wr => ∃ (K : Nat) (t : List UInt8) (ts : List (List UInt8)), i = .int .i64 (K : Nat) ∧ K % 128 = 0 ∧ text = .string (txt t) ∧ again = .string (txt (wrapsF ts)) ∧ K ≤ L ∧ Aside (refF l [] = (refF (l.drop (K)) t).map (ts ++ ·)) ∧ t.length ≤ K ∧ (wrapsF ts).length + 3 * t.length ≤ 4 * K ∧ 128 * ts.length ≤ K ∧ Below w.heap.size w wr ∧ TextsOf w.heap.size wr out ts) (fun _ _ _ i _ => L - (intOf i).toNat)
    case atStart => exact ⟨0, [], [], rfl, rfl, rfl, rfl, Nat.zero_le _, by show _ = _; rw [List.drop_zero]; cases refF l [] <;> simp, by simp, by simp [wrapsF], by simp, Below.refl _ _, TextsOf.nil _ _⟩
    case round =>
      obtain ⟨K, t, ts, rfl, hKm, rfl, rfl, hk, HE, ht, hA, hts, hB, hO⟩ := hrel
      have hz := hB.size
      by_cases hlt : K < L
      · obtain ⟨r, hr⟩ : ∃ r, r = l.drop (K) := ⟨_, rfl⟩
        have hrl : r.length = L - K := by rw [hr, List.length_drop, HL.out]
        have h128 : 128 ≤ r.length := by omega
        have hE := HE.out
        rw [← hr] at hE
        have HE2 := Lib.hid hE
        have hi1 : K + 1 < S0.size := by omega
        have hi0 : K < S0.size := by omega
        have g0 : S0[K].toNat = frM (r.take 128) := by
          have h := HS0.out; subst h
          match hq : r, h128 with
          | a :: b :: r', _ =>
            have : (txt l)[K] = a := by
              have h2 : l[K]? = some a := by
                have : (l.drop (K))[0]? = some a := by rw [← hr]; rfl
                rwa [List.getElem?_drop, Nat.add_zero] at this
              exact (List.getElem?_eq_some_iff.1 h2).2
            rw [this]; rfl
        have g1 : S0[K + 1].toNat = frN (r.take 128) := by
          have h := HS0.out; subst h
          match hq : r, h128 with
          | a :: b :: r', _ =>
            have : (txt l)[K + 1] = b := by
              have h2 : l[K + 1]? = some b := by
                have : (l.drop (K))[1]? = some b := by rw [← hr]; rfl
                rwa [List.getElem?_drop] at this
              exact (List.getElem?_eq_some_iff.1 h2).2
            rw [this]; rfl
        obtain ⟨m, hm'⟩ : ∃ m, m = frM (r.take 128) := ⟨_, rfl⟩
        obtain ⟨n, hn⟩ : ∃ n, n = frN (r.take 128) := ⟨_, rfl⟩
        rw [← hm'] at g0
        rw [← hn] at g1
        have s6 : frN (r.take 128) < 256 := by obtain ⟨_, _, _, _, _, _, _, h⟩ := frame_facts h128; exact h
        rw [← hn] at s6
        have HR := Lib.hid hr
        have HM := Lib.hid hm'
        have HN := Lib.hid hn
        clear hr hm' hn hE
        have bad : ¬ (frN (r.take 128) ≤ 126 ∧ frM (r.take 128) ≤ 1) → unwRes l = ([], 2) := fun h => by rw [unwRes_ref, HU.out, HE2.out, refF_stop h128 h]; rfl
        have HBAD := Lib.hid bad
        clear bad
        have w1 : (0 : Int) ≤ (K : Int) + 1 := by omega
        have w2 : (K : Int) + 1 < (L : Int) := by omega
        by_cases c2 : 126 < n
        · have c2' : (126 : Int) < (n : Int) := by omega
          have hres := HBAD.out (by rw [← HN.out, ← HM.out]; omega)
          have HRS := Lib.hid hres
          clear hres
          go_wp2_with fail
          refine bodyPost_ret (v := .tuple #[.slice none 0 0, .int .i64 2]) (by simp [results, Tryd.results15, go_sem]) rfl ⟨.slice none 0 0, by rw [HRS.out], hB, by rw [HRS.out]; exact TextsOf.nil _ _⟩
        · have c2' : (n : Int) ≤ 126 := by omega
          by_cases c1 : 1 < m
          · have c1' : (1 : Int) < (m : Int) := by omega
            have hres := HBAD.out (by rw [← HN.out, ← HM.out]; omega)
            have HRS := Lib.hid hres
            clear hres
            go_wp2_with fail
            refine bodyPost_ret (v := .tuple #[.slice none 0 0, .int .i64 2]) (by simp [results, Tryd.results15, go_sem]) rfl ⟨.slice none 0 0, by rw [HRS.out], hB, by rw [HRS.out]; exact TextsOf.nil _ _⟩
          · have c1' : (m : Int) ≤ 1 := by omega
            have hok : frN (r.take 128) ≤ 126 ∧ frM (r.take 128) ≤ 1 := by rw [← HN.out, ← HM.out]; omega
            have HOK := Lib.hid hok
            clear hok
            have htl : t.length + (frT (r.take 128)).length ≤ 200000000000000 := by
              have := frT_len (r.take 128)
              rw [← HN.out] at this; omega
            have had : ∀ W : World, (Op.stringOp .add (txt t) (S0.extract (K + 2) (K + 2 + n))).run Tryd.prog W = .ok (.string (txt (t ++ frT (r.take 128)))) W := fun W => by
              have e : S0.extract (K + 2) (K + 2 + n) = txt (frT (r.take 128)) := by
                rw [HS0.out, extract_list, frT, ← HN.out, HR.out]
                congr 1
                rw [List.drop_take, List.drop_take, List.take_take, List.drop_drop]
                congr 1
                omega
              rw [e, run_string_add_sum (P := Tryd.prog) W _ _ (by rw [txt_size, txt_size]; omega), txt_add]
            obtain ⟨T, hT⟩ : ∃ T, T = txt (t ++ frT (r.take 128)) := ⟨_, rfl⟩
            rw [← hT] at had
            have HT := Lib.hid hT
            clear hT
            have hdr : r.drop 128 = l.drop (K + 128) := by rw [HR.out, List.drop_drop]
            have HDR := Lib.hid hdr
            have hft := frT_len (r.take 128)
            rw [← HN.out] at hft
            have hKL : K + 128 ≤ L := by omega
            clear hdr
            rcases (show m = 1 ∨ m = 0 by omega) with rfl | rfl
            · go_wp2_with fail
              refine ⟨⟨K + 128, t ++ frT (r.take 128), ts, by go_num, by omega, by rw [HT.out], rfl, by omega, ?_, by simp; omega, by simp; omega, by omega, hB, hO⟩, by simp [intOf]; omega⟩
              show _ = _
              rw [HE2.out, refF_more h128 HOK.out (by rw [← HM.out]; decide), HDR.out]
            · obtain ⟨va, vc, rfl⟩ := hO.form
              obtain ⟨q, hq⟩ : ∃ q, q = ts.length := ⟨_, rfl⟩
              have hoz := hO
              unfold TextsOf at hoz
              rw [← hq] at hoz hts ⊢
              have HOZ := Lib.hid hoz
              have HTN := Lib.hid hq
              obtain ⟨W, hW⟩ : ∃ W, W = txt (wrapF (t ++ frT (r.take 128))) := ⟨_, rfl⟩
              have hwr : ∀ V : World, Calls Tryd.prog 16 #[.string T] V fun e w' => e = .returned (.string W) ∧ Below V.heap.size V w' := fun V => by
                rw [HT.out, hW]; exact refWrap_any _ V (by rw [List.length_append]; omega)
              have hwl := wrapF_length (t ++ frT (r.take 128))
              rw [List.length_append] at hwl
              have hq2 : (t.length + (frT (r.take 128)).length) / 126 * 126 ≤ t.length + (frT (r.take 128)).length := Nat.div_mul_le_self _ _
              have hadd : ∀ V : World, (Op.stringOp .add (txt (wrapsF ts)) W).run Tryd.prog V = .ok (.string (txt (wrapsF (ts ++ [t ++ frT (r.take 128)])))) V := fun V => by
                rw [hW, run_string_add_sum (P := Tryd.prog) V _ _ (by rw [txt_size, txt_size]; omega), txt_add, wrapsF_snoc]
              obtain ⟨Y, hY⟩ : ∃ Y, Y = txt (wrapsF (ts ++ [t ++ frT (r.take 128)])) := ⟨_, rfl⟩
              rw [← hY] at hadd
              have hA2 : (wrapsF (ts ++ [t ++ frT (r.take 128)])).length ≤ 4 * (K + 128) := by rw [wrapsF_snoc, List.length_append]; omega
              have HA2 := Lib.hid hA2
              have HW := Lib.hid hwr
              have HY := Lib.hid hY
              clear hoz hq hO hW hwr hwl hq2 hY hA2
              go_wp2_with (first | (at_builtin; refine wpList_append_lies _ rfl _ _ 31 rfl w.heap.size 9 i0 _ 1 16 Tryd.underlying31 hi hz0 hz1 hz2 rfl (by omega) (.slice va q vc) q (encS ts) rfl (HOZ.out.alloc _) ⟨wr.heap.size, 0, none⟩ 1 1 [.string T] rfl rfl (news_alloc _ _ _ (by simp)) (by simp [Value.oneCell']) (by omega) (by unfold maxLen; omega) (by omega) (by simp; omega) (wr.heap.size + 1) (by simp) ?_; intro g cap1 w1 hown1 hgrow1 hat1 hlt1) | (go_at_call 16; with_reducible refine (HW.out _).mono ?_; rintro e w2 ⟨rfl, hb2⟩))
              have hB1 : Below w.heap.size w w1 := (hB.alloc hz _).grown hgrow1 (by simp; omega) (fun y hy => (HOZ.out.lt y hy).1)
              refine ⟨⟨K + 128, [], ts ++ [t ++ frT (r.take 128)], by go_num, by omega, rfl, by rw [HY.out], by omega, ?_, by simp, by have := HA2.out; simp; omega, by rw [List.length_append, List.length_singleton, ← HTN.out]; omega, hB1.trans (hb2.mono hB1.size), ?_⟩, by simp [intOf]; omega⟩
              · show _ = _
                rw [HE2.out, refF_last h128 HOK.out (by rw [← HM.out]), HDR.out]
                cases refF (l.drop (K + 128)) [] <;> simp
              · have hen : encS (ts ++ [t ++ frT (r.take 128)]) = encS ts ++ [.string T] := by rw [encS_append, HT.out]; rfl
                refine TextsOf.below ?_ hb2
                rw [TextsOf, List.length_append, List.length_singleton, hen, ← HTN.out]
                exact hown1
      · obtain rfl : K = L := by omega
        have hfin : refF l [] = some ts := by
          rw [HE.out, HL.out, List.drop_length, refF_nil']; simp
        obtain ⟨va, vc, rfl⟩ := hO.form
        by_cases heq : wrapsF ts = l
        · have hres : unwRes l = (ts, 0) := by rw [unwRes_ref, HU.out, hfin]; simp only; rw [if_pos heq]
          have HRS := Lib.hid hres
          obtain ⟨n, hn⟩ : ∃ n, n = ts.length := ⟨_, rfl⟩
          have HO := Lib.hid hO
          have hbq : ((txt (wrapsF ts)).toList == S0.toList) = true := by rw [HS0.out, txt_beq]; simp [heq]
          rw [← hn]
          have HN := Lib.hid hn
          obtain ⟨Y, hY⟩ : ∃ Y, Y = txt (wrapsF ts) := ⟨_, rfl⟩
          rw [← hY] at hbq ⊢
          clear hres hO hn hfin hA heq hY
          go_wp2_with fail
          refine bodyPost_ret (v := .tuple #[.slice va n vc, .int .i64 0]) (by simp [results, Tryd.results15, go_sem]) rfl ⟨.slice va n vc, by rw [HRS.out], hB, by rw [HRS.out, HN.out]; exact HO.out⟩
        · have hres : unwRes l = ([], 2) := by rw [unwRes_ref, HU.out, hfin]; simp only; rw [if_neg heq]
          have HRS := Lib.hid hres
          have hbq : ((txt (wrapsF ts)).toList == S0.toList) = false := by rw [HS0.out, txt_beq]; simp [heq]
          obtain ⟨Y, hY⟩ : ∃ Y, Y = txt (wrapsF ts) := ⟨_, rfl⟩
          rw [← hY] at hbq ⊢
          clear hres hfin hA heq hY
          go_wp2_with fail
          refine bodyPost_ret (v := .tuple #[.slice none 0 0, .int .i64 2]) (by simp [results, Tryd.results15, go_sem]) rfl ⟨.slice none 0 0, by rw [HRS.out], hB, by rw [HRS.out]; exact TextsOf.nil _ _⟩
  · have hmi : ¬ ((L : Int) % 128) = 0 := by omega
    have hres : unwRes l = ([], 2) := unwRes_none (by rw [unwrapF, if_pos (by have := HL.out; omega)])
    have HR := Lib.hid hres
    clear hres
    go_enter Tryd.func15, Tryd.ntmps15
    go_wp2_with fail
    refine bodyPost_ret (v := .tuple #[.slice none 0 0, .int .i64 2]) (by simp [results, Tryd.results15, go_sem]) rfl ⟨.slice none 0 0, by rw [HR.out], Below.refl _ _, by rw [HR.out]; exact TextsOf.nil _ _⟩
end Go.Proofs.YtffgpjkkgndkiaaDoor
