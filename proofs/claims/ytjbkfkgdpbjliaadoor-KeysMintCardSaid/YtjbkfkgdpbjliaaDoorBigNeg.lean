/-
  Numbers below 0: SetInt64, NewInt, Text, String, decimal.
-/
import Derived.Test.YtjbkfkgdpbjliaaDoorBigDigits
namespace Go.Proofs.YtjbkfkgdpbjliaaDoor
set_option maxRecDepth 100000
open Go.RowKit

/-- Block p is the number -n. -/
def BigNg (w : World) (p n : Nat) : Prop := ∃ v, w.heap[p]? = some (.cells #[.bool true, v] 42 (0, 0)) ∧ AbsOf w v n
theorem BigNg.below {w w' : World} {p n : Nat} (h : BigNg w p n) (hb : Below w.heap.size w w') : BigNg w' p n := by
  obtain ⟨v, h1, h2⟩ := h
  exact ⟨v, (hb.block p (lt_of_block h1)).trans h1, h2.below hb⟩
set_option maxHeartbeats 1000000 in
theorem give_neg (p n : Nat) (v : Value) (w : World) (hp : BigBlk w p) (hv : AbsOf w v n) (hn0 : 0 < n) :
    Calls Tryd.prog 31 #[.pointer (some ⟨p, 0, none⟩), .bool true, v] w fun e w' => e = .returned (.pointer (some ⟨p, 0, none⟩)) ∧ BigNg w' p n ∧ Keeps (fun i => i = p) w w' := by
  have HP := Lib.hid hp
  have HV := Lib.hid hv
  obtain ⟨f, sa, sn, sc, hb⟩ := hp
  obtain ⟨a, c, rfl, hs, _⟩ := hv
  obtain ⟨L, hL⟩ : ∃ L, L = (wordsN n).length := ⟨_, rfl⟩
  have HL := Lib.hid hL
  have hL2 : L ≤ 140737488351232 := by rw [hL]; have := hs.wide; omega
  have hL0 : L ≠ 0 := fun h => by rw [h] at hL; have := wordsN_nil.1 hL.symm; omega
  have t1 : decide ((L : Int) > 0) = true := decide_eq_true (by omega)
  have t2 : decide (0 < L) = true := decide_eq_true (by omega)
  have t3 : decide (0 < (L : Int)) = true := decide_eq_true (by omega)
  rw [← hL] at HV ⊢
  have hlt := lt_of_block hb
  have f0 : w.frozen? ⟨p, 0, none⟩ = false := Joins.unfrozen_of_block hb 0
  have f1 : w.frozen? ⟨p, 1, none⟩ = false := Joins.unfrozen_of_block hb 1
  have c0 : w.cell? ⟨p, 0, none⟩ = some (.bool f) := Joins.cell_of_block hb 0
  have c1 : w.cell? ⟨p, 1, none⟩ = some (.slice sa sn sc) := Joins.cell_of_block hb 1
  have hb2 := Joins.block_setCell (Joins.block_setCell (i := 1) hb (.slice a L c)) (i := 0) (.bool true)
  have hk2 : Keeps (fun i => i = p) w ((w.setCell ⟨p, 1, none⟩ (.slice a L c)).setCell ⟨p, 0, none⟩ (.bool true)) := Keeps.setCell (Keeps.setCell (Keeps.refl (fun i => i = p) w) (p := ⟨p, 1, none⟩) (fun _ => rfl) _) (p := ⟨p, 0, none⟩) (fun _ => rfl) _
  have HB2 := Lib.hid hb2
  have HK2 := Lib.hid hk2
  clear hs hL hb hb2 hk2
  go_enter Tryd.func31, Tryd.ntmps31
  go_wp2_with fail
  go_ret
  refine ⟨rfl, ⟨.slice a L c, ?_, ?_⟩, HK2.out⟩
  · have := HB2.out
    simpa using this
  · exact HV.out.keep HP.out HK2.out
set_option maxHeartbeats 1000000 in
theorem setInt64_neg (p n : Nat) (w : World) (hp : BigBlk w p) (hn0 : 0 < n) (hn : n ≤ 9223372036854775808) :
    Calls Tryd.prog 33 #[.pointer (some ⟨p, 0, none⟩), .int .i64 (-(n : Int))] w fun e w' => e = .returned (.pointer (some ⟨p, 0, none⟩)) ∧ BigNg w' p n ∧ Keeps (fun i => i = p) w w' := by
  have HP := Lib.hid hp
  obtain ⟨m, hm⟩ : ∃ m : Int, -(n : Int) = m := ⟨_, rfl⟩
  rw [hm]
  have hm0 : m < 0 := by omega
  have hm1 : -9223372036854775808 ≤ m := by omega
  have t1 : decide (m < 0) = true := decide_eq_true hm0
  have e1 : IntKind.u64.wrap m = m + 18446744073709551616 := by rw [IntKind.wrap_u64]; omega
  have e2 : IntKind.u64.wrap (-(m + 18446744073709551616)) = (n : Int) := by rw [IntKind.wrap_u64]; omega
  have HW := Lib.hid (words_any n w (by omega))
  clear hp hm
  go_enter Tryd.func33, Tryd.ntmps33
  go_wp2_with fail
  refine HW.out.mono ?_
  rintro e w1 ⟨⟨v, rfl, hv⟩, hb⟩
  have HG := Lib.hid (give_neg p n v w1 (HP.out.below hb) hv hn0)
  have HK := Lib.hid (Keeps.of_below (F := fun i => i = p) hb)
  clear hv hb
  go_wp2_with fail
  refine HG.out.mono ?_
  rintro e w2 ⟨rfl, h1, h2⟩
  have H1 := Lib.hid h1
  have H2 := Lib.hid (HK.out.trans h2 (fun _ _ h => h))
  clear h1 h2
  go_wp2_with fail
  go_ret
  exact ⟨rfl, H1.out, H2.out⟩
set_option maxHeartbeats 1000000 in
theorem newInt_neg (n : Nat) (w : World) (hn0 : 0 < n) (hn : n ≤ 9223372036854775808) :
    Calls Tryd.prog 15 #[.int .i64 (-(n : Int))] w fun e w' => e = .returned (.pointer (some ⟨w.heap.size, 0, none⟩)) ∧ BigNg w' w.heap.size n ∧ Below w.heap.size w w' := by
  have HS := Lib.hid (fun w1 h => setInt64_neg w.heap.size n w1 h hn0 hn)
  obtain ⟨m, hm⟩ : ∃ m : Int, m = -(n : Int) := ⟨_, rfl⟩
  rw [← hm] at HS ⊢
  have hm1 : -9223372036854775808 ≤ m ∧ m < 0 := by omega
  obtain ⟨hm2, hm3⟩ := hm1
  clear hm
  go_enter Tryd.func15, Tryd.ntmps15
  go_wp2_with fail
  have hb : (w.alloc (.cells #[.bool false, .slice none 0 0] 42)).heap[w.heap.size]? = some (.cells #[.bool false, .slice none 0 0] 42 (0, 0)) := blk_last w _ rfl
  refine (HS.out _ ⟨false, none, 0, 0, hb⟩).mono ?_
  rintro e w2 ⟨rfl, h1, h2⟩
  have H1 := Lib.hid h1
  have H2 := Lib.hid (((Below.refl w.heap.size w).alloc (Nat.le_refl _) (.cells #[.bool false, .slice none 0 0] 42)).trans (h2.toBelow (fun i h => by rw [h]; exact Nat.le_refl _) (by simp)))
  clear h1 h2 hb
  go_wp2_with fail
  go_ret
  exact ⟨rfl, H1.out, H2.out⟩
theorem bigNg_read {w : World} {p n : Nat} (h : BigNg w p n) : ∃ a c, w.cell? ⟨p, 0, none⟩ = some (.bool true) ∧ w.cell? ⟨p, 1, none⟩ = some (.slice a (wordsN n).length c) ∧ w.heap[p]? = some (.cells #[.bool true, .slice a (wordsN n).length c] 42 (0, 0)) ∧ AbsOf w (.slice a (wordsN n).length c) n := by
  obtain ⟨v, hb, ha⟩ := h
  obtain ⟨a, c, rfl, _, _⟩ := id ha
  exact ⟨a, c, Joins.cell_of_block hb 0, Joins.cell_of_block hb 1, hb, ha⟩
set_option maxHeartbeats 4000000 in
set_option maxRecDepth 100000 in
theorem text_neg (p n B : Nat) (w : World) (hB : 2 ≤ B) (hB2 : B ≤ 36) (hp : BigNg w p n) (hn0 : 0 < n) (hn : n < bigTop) :
    Calls Tryd.prog 25 #[.pointer (some ⟨p, 0, none⟩), .int .i64 B] w fun e w' => e = .returned (.string (txt (45 :: numT B n))) ∧ Below w.heap.size w w' := by
  obtain ⟨i0, hi, hz0, hz1, hz2⟩ := info_parts infoByte
  obtain ⟨a1, c1, p0, p1, hbk, hA⟩ := bigNg_read hp
  have hL0 : (wordsN n).length ≠ 0 := fun h => by have := wordsN_nil.1 h; omega
  have hTw := twin_any n (.slice a1 (wordsN n).length c1) w hn hA
  obtain ⟨L, hL⟩ : ∃ L, L = (wordsN n).length := ⟨_, rfl⟩
  rw [← hL] at p1 hTw hL0
  have HTW := Lib.hid hTw
  have HP := Lib.hid hp
  have hle : ((L : Int) == 0) = false := by simp; omega
  have hle2 : (L == 0) = false := by simp; omega
  have hdl := digs_top hB hn
  obtain ⟨T, hT⟩ : ∃ T, T = txt (45 :: numT B n) := ⟨_, rfl⟩
  rw [← hT]
  have HT := Lib.hid hT
  rw [numT_pos_eq hn0] at HT
  have hlt := lt_of_block hbk
  clear hTw hA hbk hT hL hL0
  go_enter Tryd.func25, Tryd.ntmps25
  go_wp2_with fail
  refine HTW.out.mono ?_
  rintro e w1 ⟨⟨v', rfl, hA1⟩, hb1⟩
  go_wp2_with fail
  go_loopw [5, 6, 7] (fun b a _ wr => ∃ (m : Nat) (D : List UInt8), wr.ownsRow w.heap.size 5 1 b D.length (encB D) ∧ AbsOf wr a m ∧ m < bigTop ∧ Aside ((digs B n).map chr36 = D ++ (digs B m).map chr36) ∧ Below w.heap.size w wr) (fun b _ _ _ => 32000 - lenV b)
  case atStart => exact ⟨n, [], World.ownsRow_nil _ _ _ _, hA1, hn, by show _ = _; simp, hb1⟩
  case round =>
    clear hA1 hb1 HTW
    obtain ⟨m, D, hown, hA, hm, HD, hBw⟩ := hrel
    obtain ⟨ad, ca, hv, _, _⟩ := id hA
    obtain ⟨K, hK⟩ : ∃ K, K = (wordsN m).length := ⟨_, rfl⟩
    rw [← hK] at hv
    subst hv
    rcases Nat.eq_zero_or_pos m with rfl | hm0
    · have hK0 : K = 0 := by rw [hK]; rfl
      subst hK0
      have hDe : (digs B n).map chr36 = D := by have := HD.out; rwa [digs_zero, List.map_nil, List.append_nil] at this
      rw [hDe] at HT
      have hD0 : D ≠ [] := by
        intro h
        rw [h, digs_step hn0 hB] at hDe
        cases hDe
      have hDl : D.length ≤ 32000 := by rw [← hDe, List.length_map]; exact hdl
      have c0 : wr.cell? ⟨p, 0, none⟩ = some (.bool true) := by rw [hBw.cell hlt]; exact p0
      obtain ⟨ba, bc, rfl⟩ := own_form hown
      obtain ⟨N, hN⟩ : ∃ N, N = D.length + 1 := ⟨_, rfl⟩
      obtain ⟨D', hD'⟩ : ∃ D', D' = D ++ [45] := ⟨_, rfl⟩
      have HN : Aside (N = D'.length) := by show _ = _; rw [hN, hD', List.length_append]; rfl
      have HT2 : Aside (T = txt D'.reverse) := by show _ = _; rw [HT.out, hD', List.reverse_append]; rfl
      have HE : Aside (encB D' = encB D ++ [.int .u8 45]) := by show _ = _; rw [hD', encB_append]; rfl
      have HN0 : Aside (N = D.length + 1) := hN
      have hDl2 : D.length ≤ 32000 := by omega
      have hzw := hBw.size
      have HBw := Lib.hid hBw
      have hzz : decide (0 < ((0 : Nat) : Int)) = false := by decide
      clear hDe hD0 hN hD' hK HD hA hBw HT hDl
      go_wp2_with ((at_builtin; refine wpList_append_lies _ rfl _ _ 54 rfl w.heap.size 5 i0 _ 1 1 Tryd.underlying54 hi hz0 hz1 hz2 rfl (by omega) _ _ _ rfl (hown.alloc _) ⟨wr.heap.size, 0, none⟩ 1 1 [.int .u8 45] rfl rfl (news_alloc _ _ _ rfl) (by simp [Value.oneCell']) (by omega) (by unfold maxLen; omega) (by omega) (by simp; omega) (wr.heap.size + 1) (by simp) ?_; intro g cap1 w3 hown1 hgrow1 hat1 hlt1))
      have hBw3 := (HBw.out.alloc (by omega) (.cells #[.int .u8 45] 5)).grown hgrow1 (by simp; omega) (fun j hj => (hown.lt j hj).1)
      have hown2 : w3.ownsRow w.heap.size 5 1 (.slice (some ⟨g, 0, none⟩) D'.length cap1) D'.length (encB D') := by rw [HE.out, ← HN.out, HN0.out]; exact hown1
      rw [← HN0.out]
      have hDp : 0 < N := by have := HN0.out; omega
      have hDl : N ≤ 32001 := by have := HN0.out; omega
      obtain ⟨g', cap, sp, hgv, hg, hH, hcap, hcm, hsp⟩ := heldB_of_own hown2 (by intro h; have h1 := HN.out; rw [h] at h1; simp at h1; omega)
      simp only [Value.slice.injEq, Option.some.injEq, Addr.mk.injEq, and_true, true_and] at hgv
      obtain ⟨rfl, rfl⟩ := hgv
      rw [← HN.out] at hcap hsp
      have hS0 : Aside (TurnSt D' D' 0) := TurnSt.start D'
      have HH : Aside (HeldB w3 g D' sp) := hH
      have HT := Lib.hid HT2.out
      have hBw := hBw3
      clear hH hown hown1 hown2 hgrow1 HT2 hBw3 HBw
      go_loopw [8, 9, 10] (fun i j _ ws => ∃ (k : Nat) (E : List UInt8), i = .int .i64 k ∧ j = .int .i64 ((N : Int) - 1 - k) ∧ k ≤ N ∧ Aside (TurnSt D' E k) ∧ Aside (HeldB ws g E sp) ∧ Below w.heap.size w ws) (fun i _ _ _ => N - (intOf i).toNat)
      case atStart => exact ⟨0, D', rfl, by simp; have := HN0.out; omega, Nat.zero_le _, hS0, HH, hBw⟩
      case round =>
        clear hBw c0 HH hS0
        obtain ⟨k, E, rfl, rfl, hk, HS, HH, hBw⟩ := hrel
        by_cases hlt2 : k + 1 + k < N
        · have hd : decide ((k : Int) < (N : Int) - 1 - k) = true := decide_eq_true (by omega)
          obtain ⟨j, hj⟩ : ∃ j, j = N - 1 - k := ⟨_, rfl⟩
          have hjI : (N : Int) - 1 - (k : Int) = (j : Int) := by omega
          rw [hjI] at hd ⊢
          have hd2 : decide (k < j) = true := decide_eq_true (by omega)
          have hEl : E.length = N := by rw [HS.out.len, HN.out]
          obtain ⟨a, ha⟩ : ∃ a, E[k]? = some a := ⟨E[k]'(by omega), by simp⟩
          obtain ⟨b, hb⟩ : ∃ b, E[j]? = some b := ⟨E[j]'(by omega), by simp⟩
          have hNX := HS.out.next (by rw [← HN.out]; exact hlt2) ha (by rw [← HN.out, ← hj]; exact hb)
          rw [← HN.out, ← hj] at hNX
          have HNX := Lib.hid hNX
          have g0 : wr.cell? ⟨g, k, none⟩ = some (.int .u8 a.toNat) := HH.out.get ha
          have g1 : wr.cell? ⟨g, j, none⟩ = some (.int .u8 b.toNat) := HH.out.get hb
          have f0 : wr.frozen? ⟨g, k, none⟩ = false := Joins.unfrozen_of_block HH.out k
          have hH1 := HH.out.set (i := k) (by omega) b
          have f1 : (wr.setCell ⟨g, k, none⟩ (.int .u8 b.toNat)).frozen? ⟨g, j, none⟩ = false := Joins.unfrozen_of_block hH1 j
          have g2 : (wr.setCell ⟨g, k, none⟩ (.int .u8 b.toNat)).cell? ⟨g, j, none⟩ = some (.int .u8 b.toNat) := hH1.get (by rw [List.getElem?_set_ne (by omega)]; exact hb)
          have HH2 := Lib.hid (hH1.set (i := j) (by rw [List.length_set]; omega) a)
          have HB2 := Lib.hid ((hBw.setCell (p := ⟨g, k, none⟩) hg (.int .u8 b.toNat)).setCell (p := ⟨g, j, none⟩) hg (.int .u8 a.toNat))
          have hgl : g < wr.heap.size := lt_of_block HH.out
          have hkN : k < N := by omega
          have hjN : j < N := by omega
          have hj1 : (j : Int) - 1 = (N : Int) - 1 - ((k + 1 : Nat) : Int) := by omega
          have HJ := Lib.hid hj1
          have hmeas : N - (k + 1) < N - k := by omega
          clear hNX hH1 ha hb hj hjI hj1 hEl
          go_wp2_with fail
          refine ⟨⟨k + 1, (E.set k b).set j a, by go_num, by rw [← HJ.out], by omega, HNX.out, HH2.out, HB2.out⟩, ?_⟩
          simp [intOf]; omega
        · have hd : decide ((k : Int) < (N : Int) - 1 - k) = false := decide_eq_false (by omega)
          have hE := HS.out.ends (by rw [← HN.out]; omega)
          have hEl : E.length = N := by rw [HS.out.len, HN.out]
          have hcv := conv_own (own_of_heldB (base := w.heap.size) HH.out hg (by omega) hcm (by omega))
          rw [hEl, hE, ← HT.out] at hcv
          clear hE hEl
          go_wp2_with fail
          go_ret
          exact ⟨rfl, hBw⟩
    · have hK0 : K ≠ 0 := fun h => by rw [h] at hK; have := wordsN_nil.1 hK.symm; omega
      have hdK : decide (0 < (K : Int)) = true := decide_eq_true (by omega)
      have hdK2 : decide (0 < K) = true := decide_eq_true (by omega)
      have HS := Lib.hid (small_any m B (.slice ad K ca) wr (by omega) (by omega) hm0 hm hA)
      have hr36 : m % B < 36 := Nat.lt_of_lt_of_le (Nat.mod_lt _ (by omega)) hB2
      have hmd : m / B < bigTop := Nat.lt_of_le_of_lt (Nat.div_le_self _ _) hm
      have hDs : Aside ((digs B n).map chr36 = (D ++ [chr36 (m % B)]) ++ (digs B (m / B)).map chr36) := by
        show _ = _
        rw [HD.out, digs_step hm0 hB, List.map_cons, List.append_assoc]; rfl
      have hDl : D.length < 32000 := by
        have h := congrArg List.length HD.out
        rw [List.length_map, List.length_append, digs_step hm0 hB, List.length_map, List.length_cons] at h
        omega
      obtain ⟨r, hr⟩ : ∃ r, r = m % B := ⟨_, rfl⟩
      obtain ⟨q, hq⟩ : ∃ q, q = m / B := ⟨_, rfl⟩
      rw [← hr] at HS hr36 hDs
      rw [← hq] at HS hmd hDs
      have hwr := hBw.size
      clear hA hr hq hK HD
      go_wp2_with fail
      refine HS.out.mono ?_
      rintro e w2 ⟨⟨u, rfl, hA2⟩, hb2⟩
      have hown2 := own_below hown hb2
      have hBw2 := hBw.trans (hb2.mono hwr)
      have hz2' := hBw2.size
      have HB2 := Lib.hid hBw2
      clear hown hBw HS
      obtain ⟨ba, bc, rfl⟩ := own_form hown2
      by_cases hr10 : r < 10
      · have hn : encB [chr36 r] = [.int .u8 (48 + r)] := by
          simp only [encB, List.map_cons, List.map_nil, chr_low hr10]; simp
        have Hn := Lib.hid hn
        have hd1 : decide ((r : Int) < 10) = true := decide_eq_true (by omega)
        have hd2 : decide (r < 10) = true := decide_eq_true (by omega)
        clear hn
        go_wp2_with ((at_builtin; refine wpList_append_lies _ rfl _ _ 54 rfl w.heap.size 5 i0 _ 1 1 Tryd.underlying54 hi hz0 hz1 hz2 rfl (by omega) _ _ _ rfl (hown2.alloc _) ⟨w2.heap.size, 0, none⟩ 1 1 [.int .u8 (48 + r)] rfl rfl (news_alloc _ _ _ rfl) (by simp [Value.oneCell']) (by omega) (by unfold maxLen; omega) (by omega) (by simp; omega) (w2.heap.size + 1) (by simp) ?_; intro g cap1 w3 hown1 hgrow1 hat1 hlt1))
        go_roundw
        case rel =>
          refine ⟨q, D ++ [chr36 r], ?_, (hA2.below ((Below.refl _ _).alloc (Nat.le_refl _) _)).grown (hown2.alloc _) hgrow1, hmd, hDs, (HB2.out.alloc (by omega) _).grown hgrow1 (by simp; omega) (fun j hj => (hown2.lt j hj).1)⟩
          rw [encB_append, Hn.out, List.length_append]
          exact hown1
        case measure => simp [lenV]; omega
      · have hn : encB [chr36 r] = [.int .u8 (97 + r - 10)] := by
          simp only [encB, List.map_cons, List.map_nil, chr_high hr10 hr36]
          congr 2
          omega
        have Hn := Lib.hid hn
        have hd1 : decide ((r : Int) < 10) = false := decide_eq_false (by omega)
        have hd2 : decide (r < 10) = false := decide_eq_false (by omega)
        clear hn
        go_wp2_with ((at_builtin; refine wpList_append_lies _ rfl _ _ 54 rfl w.heap.size 5 i0 _ 1 1 Tryd.underlying54 hi hz0 hz1 hz2 rfl (by omega) _ _ _ rfl (hown2.alloc _) ⟨w2.heap.size, 0, none⟩ 1 1 [.int .u8 (97 + r - 10)] rfl rfl (news_alloc _ _ _ rfl) (by simp [Value.oneCell']) (by omega) (by unfold maxLen; omega) (by omega) (by simp; omega) (w2.heap.size + 1) (by simp) ?_; intro g cap1 w3 hown1 hgrow1 hat1 hlt1))
        go_roundw
        case rel =>
          refine ⟨q, D ++ [chr36 r], ?_, (hA2.below ((Below.refl _ _).alloc (Nat.le_refl _) _)).grown (hown2.alloc _) hgrow1, hmd, hDs, (HB2.out.alloc (by omega) _).grown hgrow1 (by simp; omega) (fun j hj => (hown2.lt j hj).1)⟩
          rw [encB_append, Hn.out, List.length_append]
          exact hown1
        case measure => simp [lenV]; omega
theorem bigString_neg (p n : Nat) (w : World) (hp : BigNg w p n) (hn0 : 0 < n) (hn : n < bigTop) :
    Calls Tryd.prog 44 #[.pointer (some ⟨p, 0, none⟩)] w fun e w' => e = .returned (.string (txt (45 :: Lib.decDigits n))) ∧ Below w.heap.size w w' := by
  have h := text_neg p n 10 w (by omega) (by omega) hp hn0 hn
  rw [numT_dec] at h
  have H := Lib.hid h
  obtain ⟨S, hS⟩ : ∃ S, S = txt (45 :: Lib.decDigits n) := ⟨_, rfl⟩
  rw [← hS] at H ⊢
  clear h hS
  go_enter Tryd.func44, Tryd.ntmps44
  go_wp2_with fail
  refine H.out.mono ?_
  rintro e w1 ⟨rfl, hb⟩
  go_wp2_with fail
  go_ret
  exact ⟨rfl, hb⟩
/-- decimal of a number below 0. -/
theorem decimal_neg (n : Nat) (w : World) (hn0 : 0 < n) (hn : n ≤ 9223372036854775808) :
    Calls Tryd.prog 24 #[.int .i64 (-(n : Int))] w fun e w' => e = .returned (.string (txt (45 :: Lib.decDigits n))) ∧ Below w.heap.size w w' := by
  have HN := Lib.hid (newInt_neg n w hn0 hn)
  have HS := Lib.hid (fun (w1 : World) (p : Nat) (h : BigNg w1 p n) => bigString_neg p n w1 h hn0 (by have := bigTop_ge; omega))
  obtain ⟨S, hS⟩ : ∃ S, S = txt (45 :: Lib.decDigits n) := ⟨_, rfl⟩
  rw [← hS] at HS ⊢
  obtain ⟨m, hm⟩ : ∃ m : Int, m = -(n : Int) := ⟨_, rfl⟩
  rw [← hm] at HN ⊢
  have hm1 : -9223372036854775808 ≤ m ∧ m < 0 := by omega
  obtain ⟨hm2, hm3⟩ := hm1
  clear hS hm
  go_enter Tryd.func24, Tryd.ntmps24
  go_wp2_with fail
  refine HN.out.mono ?_
  rintro e w1 ⟨rfl, hp, hb⟩
  have H := Lib.hid (HS.out w1 _ hp)
  have hz := hb.size
  go_wp2_with fail
  refine H.out.mono ?_
  rintro e w2 ⟨rfl, hb2⟩
  go_wp2_with fail
  go_ret
  exact ⟨rfl, hb.trans (hb2.mono hz)⟩
end Go.Proofs.YtjbkfkgdpbjliaaDoor
