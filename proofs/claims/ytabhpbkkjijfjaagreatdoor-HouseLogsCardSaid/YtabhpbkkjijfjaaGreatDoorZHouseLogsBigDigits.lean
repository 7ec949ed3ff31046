/-
  Whole numbers: Text, String (a number below 2^64, in a base from 2 to 36).
-/
import Derived.Test.YtabhpbkkjijfjaaGreatDoorZHouseLogs42
namespace Go.Proofs.YtabhpbkkjijfjaaGreatDoor
set_option maxRecDepth 100000
open Go.RowKit

/-- Block g holds the bytes l, and sp behind them. -/
def HeldB (w : World) (g : Nat) (l : List UInt8) (sp : List Value) : Prop := w.heap[g]? = some (.cells (encB l ++ sp).toArray 5 (0, 0))
theorem HeldB.get {w : World} {g i : Nat} {l : List UInt8} {sp : List Value} {x : UInt8} (h : HeldB w g l sp) (hx : l[i]? = some x) : w.cell? ⟨g, i, none⟩ = some (.int .u8 x.toNat) := by
  have hl := (List.getElem?_eq_some_iff.1 hx).1
  rw [Joins.cell_of_block h]
  simp only [List.getElem?_toArray]
  rw [List.getElem?_append_left (by rw [encB_length]; exact hl), encB, List.getElem?_map, hx]
  rfl
theorem HeldB.set {w : World} {g i : Nat} {l : List UInt8} {sp : List Value} (h : HeldB w g l sp) (hi : i < l.length) (x : UInt8) : HeldB (w.setCell ⟨g, i, none⟩ (.int .u8 x.toNat)) g (l.set i x) sp := by
  unfold HeldB
  rw [Joins.block_setCell h]
  simp only [List.setIfInBounds_toArray]
  rw [List.set_append_left _ _ (by rw [encB_length]; exact hi), encB, ← List.map_set]
  rfl
theorem heldB_of_own {w : World} {base : Nat} {v : Value} {l : List UInt8} (h : w.ownsRow base 5 1 v l.length (encB l)) (h0 : l ≠ []) : ∃ g cap sp, v = .slice (some ⟨g, 0, none⟩) l.length cap ∧ base ≤ g ∧ HeldB w g l sp ∧ l.length ≤ cap ∧ cap ≤ maxLen ∧ l.length + sp.length = cap := by
  rcases h.2 with ⟨_, h1⟩ | ⟨g, cap, cur, hv, hb, hg, hc, hm, hs, ht⟩
  · exact absurd (List.eq_nil_of_length_eq_zero h1) h0
  · rw [Nat.mul_one] at hs ht
    refine ⟨g, cap, cur.toList.drop l.length, hv, hb, ?_, hc, hm, by simp; omega⟩
    unfold HeldB
    rw [← ht, List.take_append_drop, hg]
theorem own_of_heldB {w : World} {base g cap : Nat} {l : List UInt8} {sp : List Value} (h : HeldB w g l sp) (hb : base ≤ g) (hc : l.length ≤ cap) (hm : cap ≤ maxLen) (hl : l.length + sp.length = cap) : w.ownsRow base 5 1 (.slice (some ⟨g, 0, none⟩) l.length cap) l.length (encB l) :=
  ⟨by rw [encB_length, Nat.mul_one], .inr ⟨g, cap, _, rfl, hb, h, hc, hm, by simp [encB_length]; omega, by rw [Nat.mul_one]; simp [encB_length]⟩⟩
def lenV : Value → Nat
  | .slice _ n _ => n
  | _ => 0
theorem AbsOf.grown {w w' : World} {u v : Value} {m base n : Nat} {xs : List Value} (h : AbsOf w u m) (hown : w.ownsRow base 5 1 v n xs) (hg : w.grownBy w' v.ownBlock) : AbsOf w' u m :=
  h.keepT fun b arr fr hb => hg.block b (lt_of_block hb) (fun e => Lib.ownBlock_ne hown hb (by decide) e.symm)
theorem numT_pos_eq {B n : Nat} (hn : 0 < n) : numT B n = ((digs B n).map chr36).reverse := by rw [numT, if_neg (by omega)]
set_option maxHeartbeats 4000000 in
set_option maxRecDepth 100000 in
theorem text_any (p n B : Nat) (w : World) (hB : 2 ≤ B) (hB2 : B ≤ 36) (hp : BigAt w p n) (hn : n < bigTop) :
    Calls Tryz.prog 59 #[.pointer (some ⟨p, 0, none⟩), .int .i64 B] w fun e w' => e = .returned (.string (txt (numT B n))) ∧ Below w.heap.size w w' := by
  obtain ⟨i0, hi, hz0, hz1, hz2⟩ := info_parts infoByte
  obtain ⟨a1, c1, p0, p1, s1⟩ := bigAt_read hp
  rcases Nat.eq_zero_or_pos n with rfl | hn0
  · clear s1
    rw [wordsN_zero] at p1
    rw [show txt (numT B 0) = ⟨#[48]⟩ from rfl]
    go_enter Tryz.func59, Tryz.ntmps59
    go_wp2_with fail
    go_ret
    exact ⟨rfl, Below.refl _ _⟩
  · have hp' := hp
    obtain ⟨v, hbk, hA⟩ := hp
    have hv : v = .slice a1 (wordsN n).length c1 := by
      have h := (Joins.cell_of_block hbk 1).symm.trans p1
      simpa using h
    have hL0 : (wordsN n).length ≠ 0 := fun h => by have := wordsN_nil.1 h; omega
    rw [hv] at hA
    have hTw := twin_any n (.slice a1 (wordsN n).length c1) w hn hA
    obtain ⟨L, hL⟩ : ∃ L, L = (wordsN n).length := ⟨_, rfl⟩
    rw [← hL] at p1 hTw hL0
    have HTW := Lib.hid hTw
    have HP := Lib.hid hp'
    have hle : ((L : Int) == 0) = false := by simp; omega
    have hle2 : (L == 0) = false := by simp; omega
    have hdl := digs_top hB hn
    obtain ⟨T, hT⟩ : ∃ T, T = txt (numT B n) := ⟨_, rfl⟩
    rw [← hT]
    have HT := Lib.hid hT
    rw [numT_pos_eq hn0] at HT
    have hlt := lt_of_block hbk
    clear hTw s1 hA hv hbk hp' hT hL hL0
    go_enter Tryz.func59, Tryz.ntmps59
    go_wp2_with fail
    refine HTW.out.mono ?_
    rintro e w1 ⟨⟨v', rfl, hA1⟩, hb1⟩
    go_wp2_with fail
    go_loopw [5, 6, 7] (fun b a _ wr => ∃ (m : Nat) (D : List UInt8), wr.ownsRow w.heap.size 5 1 b D.length (encB D) ∧ AbsOf wr a m ∧ m < bigTop ∧ Aside ((digs B n).map chr36 = D ++ (digs B m).map chr36) ∧ Below w.heap.size w wr) (fun b _ _ _ => 32000 - lenV b)
    case atStart => exact ⟨n, [], World.ownsRow_nil _ _ _ _, hA1, hn, by show _ = _; simp, hb1⟩
    case round =>
      clear hA1 hb1 HTW
      obtain ⟨m, D, hown, hA, hm, HD, hBw⟩ := hrel
      obtain ⟨ad, ca, hv, _, _⟩ := id hA
      obtain ⟨K, hK⟩ : ∃ K, K = (wordsN m).length := ⟨_, rfl⟩
      rw [← hK] at hv
      subst hv
      rcases Nat.eq_zero_or_pos m with rfl | hm0
      · have hK0 : K = 0 := by rw [hK]; rfl
        subst hK0
        have hDe : (digs B n).map chr36 = D := by have := HD.out; rwa [digs_zero, List.map_nil, List.append_nil] at this
        rw [hDe] at HT
        have hD0 : D ≠ [] := by
          intro h
          rw [h, digs_step hn0 hB] at hDe
          cases hDe
        have hDl : D.length ≤ 32000 := by rw [← hDe, List.length_map]; exact hdl
        obtain ⟨g, cap, sp, rfl, hg, hH, hcap, hcm, hsp⟩ := heldB_of_own hown hD0
        have hDp : 0 < D.length := by cases D with | nil => exact absurd rfl hD0 | cons _ _ => simp
        have c0 : wr.cell? ⟨p, 0, none⟩ = some (.bool false) := by rw [hBw.cell hlt]; exact p0
        obtain ⟨N, hN⟩ : ∃ N, N = D.length := ⟨_, rfl⟩
        rw [← hN] at hcap hsp hDp hDl ⊢
        have HN := Lib.hid hN
        have hS0 : Aside (DigTurn D D 0) := DigTurn.start D
        have HH : Aside (HeldB wr g D sp) := hH
        have hzz : decide (0 < ((0 : Nat) : Int)) = false := by decide
        clear hH hown hA hDe hD0 hN hK HD
        go_wp2_with fail
        go_loopw [8, 9, 10] (fun i j _ ws => ∃ (k : Nat) (E : List UInt8), i = .int .i64 k ∧ j = .int .i64 ((N : Int) - 1 - k) ∧ k ≤ N ∧ Aside (DigTurn D E k) ∧ Aside (HeldB ws g E sp) ∧ Below w.heap.size w ws) (fun i _ _ _ => N - (intOf i).toNat)
        case atStart => exact ⟨0, D, rfl, by simp, Nat.zero_le _, hS0, HH, hBw⟩
        case round =>
          clear hBw c0 HH hS0
          obtain ⟨k, E, rfl, rfl, hk, HS, HH, hBw⟩ := hrel
          by_cases hlt2 : k + 1 + k < N
          · have hd : decide ((k : Int) < (N : Int) - 1 - k) = true := decide_eq_true (by omega)
            obtain ⟨j, hj⟩ : ∃ j, j = N - 1 - k := ⟨_, rfl⟩
            have hjI : (N : Int) - 1 - (k : Int) = (j : Int) := by omega
            rw [hjI] at hd ⊢
            have hd2 : decide (k < j) = true := decide_eq_true (by omega)
            have hEl : E.length = N := by rw [HS.out.len, HN.out]
            obtain ⟨a, ha⟩ : ∃ a, E[k]? = some a := ⟨E[k]'(by omega), by simp⟩
            obtain ⟨b, hb⟩ : ∃ b, E[j]? = some b := ⟨E[j]'(by omega), by simp⟩
            have hNX := HS.out.next (by rw [← HN.out]; exact hlt2) ha (by rw [← HN.out, ← hj]; exact hb)
            rw [← HN.out, ← hj] at hNX
            have HNX := Lib.hid hNX
            have g0 : wr.cell? ⟨g, k, none⟩ = some (.int .u8 a.toNat) := HH.out.get ha
            have g1 : wr.cell? ⟨g, j, none⟩ = some (.int .u8 b.toNat) := HH.out.get hb
            have f0 : wr.frozen? ⟨g, k, none⟩ = false := Joins.unfrozen_of_block HH.out k
            have hH1 := HH.out.set (i := k) (by omega) b
            have f1 : (wr.setCell ⟨g, k, none⟩ (.int .u8 b.toNat)).frozen? ⟨g, j, none⟩ = false := Joins.unfrozen_of_block hH1 j
            have g2 : (wr.setCell ⟨g, k, none⟩ (.int .u8 b.toNat)).cell? ⟨g, j, none⟩ = some (.int .u8 b.toNat) := hH1.get (by rw [List.getElem?_set_ne (by omega)]; exact hb)
            have HH2 := Lib.hid (hH1.set (i := j) (by rw [List.length_set]; omega) a)
            have HB2 := Lib.hid ((hBw.setCell (p := ⟨g, k, none⟩) hg (.int .u8 b.toNat)).setCell (p := ⟨g, j, none⟩) hg (.int .u8 a.toNat))
            have hgl : g < wr.heap.size := lt_of_block HH.out
            have hkN : k < N := by omega
            have hjN : j < N := by omega
            have hj1 : (j : Int) - 1 = (N : Int) - 1 - ((k + 1 : Nat) : Int) := by omega
            have HJ := Lib.hid hj1
            have hmeas : N - (k + 1) < N - k := by omega
            clear hNX hH1 ha hb hj hjI hj1 hEl
            go_wp2_with fail
            refine ⟨⟨k + 1, (E.set k b).set j a, by go_num, by rw [← HJ.out], by omega, HNX.out, HH2.out, HB2.out⟩, ?_⟩
            simp [intOf]; omega
          · have hd : decide ((k : Int) < (N : Int) - 1 - k) = false := decide_eq_false (by omega)
            have hE := HS.out.ends (by rw [← HN.out]; omega)
            have hEl : E.length = N := by rw [HS.out.len, HN.out]
            have hcv := conv_own (own_of_heldB (base := w.heap.size) HH.out hg (by omega) hcm (by omega))
            rw [hEl, hE, ← HT.out] at hcv
            clear hE hEl
            go_wp2_with fail
            go_ret
            exact ⟨rfl, hBw⟩
      · have hK0 : K ≠ 0 := fun h => by rw [h] at hK; have := wordsN_nil.1 hK.symm; omega
        have hdK : decide (0 < (K : Int)) = true := decide_eq_true (by omega)
        have hdK2 : decide (0 < K) = true := decide_eq_true (by omega)
        have HS := Lib.hid (small_any m B (.slice ad K ca) wr (by omega) (by omega) hm0 hm hA)
        have hr36 : m % B < 36 := Nat.lt_of_lt_of_le (Nat.mod_lt _ (by omega)) hB2
        have hmd : m / B < bigTop := Nat.lt_of_le_of_lt (Nat.div_le_self _ _) hm
        have hDs : Aside ((digs B n).map chr36 = (D ++ [chr36 (m % B)]) ++ (digs B (m / B)).map chr36) := by
          show _ = _
          rw [HD.out, digs_step hm0 hB, List.map_cons, List.append_assoc]; rfl
        have hDl : D.length < 32000 := by
          have h := congrArg List.length HD.out
          rw [List.length_map, List.length_append, digs_step hm0 hB, List.length_map, List.length_cons] at h
          omega
        obtain ⟨r, hr⟩ : ∃ r, r = m % B := ⟨_, rfl⟩
        obtain ⟨q, hq⟩ : ∃ q, q = m / B := ⟨_, rfl⟩
        rw [← hr] at HS hr36 hDs
        rw [← hq] at HS hmd hDs
        have hwr := hBw.size
        clear hA hr hq hK HD
        go_wp2_with fail
        refine HS.out.mono ?_
        rintro e w2 ⟨⟨u, rfl, hA2⟩, hb2⟩
        have hown2 := own_below hown hb2
        have hBw2 := hBw.trans (hb2.mono hwr)
        have hz2' := hBw2.size
        have HB2 := Lib.hid hBw2
        clear hown hBw HS
        obtain ⟨ba, bc, rfl⟩ := own_form hown2
        by_cases hr10 : r < 10
        · have hn : encB [chr36 r] = [.int .u8 (48 + r)] := by
            simp only [encB, List.map_cons, List.map_nil, chr_low hr10]; simp
          have Hn := Lib.hid hn
          have hd1 : decide ((r : Int) < 10) = true := decide_eq_true (by omega)
          have hd2 : decide (r < 10) = true := decide_eq_true (by omega)
          clear hn
          go_wp2_with ((at_builtin; refine wpList_append_lies _ rfl _ _ 51 rfl w.heap.size 5 i0 _ 1 1 Tryz.underlying51 hi hz0 hz1 hz2 rfl (by omega) _ _ _ rfl (hown2.alloc _) ⟨w2.heap.size, 0, none⟩ 1 1 [.int .u8 (48 + r)] rfl rfl (news_alloc _ _ _ rfl) (by simp [Value.oneCell']) (by omega) (by unfold maxLen; omega) (by omega) (by simp; omega) (w2.heap.size + 1) (by simp) ?_; intro g cap1 w3 hown1 hgrow1 hat1 hlt1))
          go_roundw
          case rel =>
            refine ⟨q, D ++ [chr36 r], ?_, (hA2.below ((Below.refl _ _).alloc (Nat.le_refl _) _)).grown (hown2.alloc _) hgrow1, hmd, hDs, (HB2.out.alloc (by omega) _).grown hgrow1 (by simp; omega) (fun j hj => (hown2.lt j hj).1)⟩
            rw [encB_append, Hn.out, List.length_append]
            exact hown1
          case measure => simp [lenV]; omega
        · have hn : encB [chr36 r] = [.int .u8 (97 + r - 10)] := by
            simp only [encB, List.map_cons, List.map_nil, chr_high hr10 hr36]
            congr 2
            omega
          have Hn := Lib.hid hn
          have hd1 : decide ((r : Int) < 10) = false := decide_eq_false (by omega)
          have hd2 : decide (r < 10) = false := decide_eq_false (by omega)
          clear hn
          go_wp2_with ((at_builtin; refine wpList_append_lies _ rfl _ _ 51 rfl w.heap.size 5 i0 _ 1 1 Tryz.underlying51 hi hz0 hz1 hz2 rfl (by omega) _ _ _ rfl (hown2.alloc _) ⟨w2.heap.size, 0, none⟩ 1 1 [.int .u8 (97 + r - 10)] rfl rfl (news_alloc _ _ _ rfl) (by simp [Value.oneCell']) (by omega) (by unfold maxLen; omega) (by omega) (by simp; omega) (w2.heap.size + 1) (by simp) ?_; intro g cap1 w3 hown1 hgrow1 hat1 hlt1))
          go_roundw
          case rel =>
            refine ⟨q, D ++ [chr36 r], ?_, (hA2.below ((Below.refl _ _).alloc (Nat.le_refl _) _)).grown (hown2.alloc _) hgrow1, hmd, hDs, (HB2.out.alloc (by omega) _).grown hgrow1 (by simp; omega) (fun j hj => (hown2.lt j hj).1)⟩
            rw [encB_append, Hn.out, List.length_append]
            exact hown1
          case measure => simp [lenV]; omega
theorem bigString_any (p n : Nat) (w : World) (hp : BigAt w p n) (hn : n < bigTop) :
    Calls Tryz.prog 41 #[.pointer (some ⟨p, 0, none⟩)] w fun e w' => e = .returned (.string (txt (Lib.decDigits n))) ∧ Below w.heap.size w w' := by
  have h := text_any p n 10 w (by omega) (by omega) hp hn
  rw [numT_dec] at h
  have H := Lib.hid h
  obtain ⟨S, hS⟩ : ∃ S, S = txt (Lib.decDigits n) := ⟨_, rfl⟩
  rw [← hS] at H ⊢
  clear h hS
  go_enter Tryz.func41, Tryz.ntmps41
  go_wp2_with fail
  refine H.out.mono ?_
  rintro e w1 ⟨rfl, hb⟩
  go_wp2_with fail
  go_ret
  exact ⟨rfl, hb⟩
/-- decimal of a number that is not negative. -/
theorem decimal_any (n : Nat) (w : World) (hn : n < 9223372036854775808) :
    Calls Tryz.prog 28 #[.int .i64 n] w fun e w' => e = .returned (.string (txt (Lib.decDigits n))) ∧ Below w.heap.size w w' := by
  have HN := Lib.hid (newInt_any n w hn)
  have HS := Lib.hid (fun (w1 : World) (p : Nat) (h : BigAt w1 p n) => bigString_any p n w1 h (by have := bigTop_ge; omega))
  obtain ⟨S, hS⟩ : ∃ S, S = txt (Lib.decDigits n) := ⟨_, rfl⟩
  rw [← hS] at HS ⊢
  clear hS
  go_enter Tryz.func28, Tryz.ntmps28
  go_wp2_with fail
  refine HN.out.mono ?_
  rintro e w1 ⟨rfl, hp, hb⟩
  have H := Lib.hid (HS.out w1 _ hp)
  have hz := hb.size
  go_wp2_with fail
  refine H.out.mono ?_
  rintro e w2 ⟨rfl, hb2⟩
  go_wp2_with fail
  go_ret
  exact ⟨rfl, hb.trans (hb2.mono hz)⟩
end Go.Proofs.YtabhpbkkjijfjaaGreatDoor
