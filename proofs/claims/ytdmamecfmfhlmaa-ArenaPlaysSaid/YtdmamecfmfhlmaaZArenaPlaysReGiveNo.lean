/-
  ref.Store's give, where the thing is not there.
-/
import Derived.Test.YtdmamecfmfhlmaaZArenaPlaysReLeast
namespace Go.Proofs.Ytdmamecfmfhlmaa
set_option maxRecDepth 100000
open Go.RowKit

set_option maxHeartbeats 8000000 in
set_option maxRecDepth 100000 in
theorem giveR_no (b : Nat) (S : RSt) (arr : Array Value) (v1 : Value) (vs : List Value) (F : Nat → Prop) (t : Nat) (k : AKey) (lv va : Int) (w : World) (h : ReAt b S arr v1 vs w F) (ht : t < 64) (hgd : ∀ p ∈ S.T, GoodE p.2) (hg : GoodA k)
    (hno : NoKey S.T k) (hroom : S.room ≤ 200000) (hsf : (S.sn t).length ≤ 200000) :
    Calls Try.prog 90 #[.pointer (some ⟨b, 0, none⟩), .int .i64 t, wantV k lv va] w (GivenR b S F t k lv va w) := by
  obtain ⟨k0, k1, k2, k3, k4⟩ := k
  have hfew := h.few
  obtain ⟨X, hX⟩ : ∃ X, X = w.alloc (.cells #[.int .i64 0, .int .i64 k0, .int .i64 lv, .int .i64 va, .int .i64 k1, .int .i64 k2, .int .i64 k3, .int .i64 k4, .int .u64 0] 118) := ⟨_, rfl⟩
  have hbX : Below w.heap.size w X := by rw [hX]; exact (Below.refl _ _).alloc (Nat.le_refl _) _
  have hx0 : X.heap[w.heap.size]? = some (.cells #[.int .i64 0, .int .i64 k0, .int .i64 lv, .int .i64 va, .int .i64 k1, .int .i64 k2, .int .i64 k3, .int .i64 k4, .int .u64 0] 118 (0, 0)) := by rw [hX]; exact blk_last w _ rfl
  have hzX : w.heap.size < X.heap.size := by rw [hX]; simp
  have hA := h.below hbX
  obtain ⟨av, c, hv1, -⟩ := hA.list.form
  obtain ⟨N, hN⟩ : ∃ N, N = S.T.length := ⟨_, rfl⟩
  rw [← hN] at hv1 hfew
  have HA := Lib.hid hA
  have HX := Lib.hid hX
  have HBX := Lib.hid hbX
  have HX0 := Lib.hid hx0
  have HV1 := Lib.hid hv1
  have HN := Lib.hid hN
  have HNK := Lib.hid hno
  have HGD := Lib.hid hgd
  have HG := Lib.hid hg
  have HROOM := Lib.hid hroom
  have HSF := Lib.hid hsf
  have HB1 : Aside (∀ ws, Below X.heap.size X ws → ws.cell? ⟨b, 1, none⟩ = some (.slice av N c)) := fun ws hb => (hb.cell (p := ⟨b, 1, none⟩) (lt_of_block hA.own)).trans ((hA.cell 1).trans (hA.c1.trans (congrArg some hv1)))
  have HFLT := Lib.hid h.lt
  have HFB := Lib.hid h.fb
  have ht0 : (0 : Int) ≤ t := by omega
  have htI : (t : Int) < 64 := by omega
  unfold wantV
  clear h hA hX hbX hx0 hv1 hN hno hgd hg hroom hsf
  go_enter Try.func90, Try.ntmps90
  go_upto_region 1 with fail
  rw [← HX.out]
  have b1 := HB1.out X (Below.refl _ _)
  go_wp2_with fail
  clear b1
  go_loopw [8, 9, 16] (fun hv _ iv ws => ∃ (k : Nat), iv = .int .i64 k ∧ hv = .pointer none ∧ k ≤ N ∧ Below X.heap.size X ws) (fun _ _ iv _ => N - (intOf iv).toNat)
  case atStart => exact ⟨0, rfl, rfl, Nat.zero_le _, Below.refl _ _⟩
  case round =>
    obtain ⟨k, rfl, rfl, hkN, hbl⟩ := hrel
    have b1 := HB1.out wr hbl
    have hbw := HX0.out
    rw [← hbl.block _ hzX] at hbw
    by_cases hk : k < N
    · obtain ⟨p, hp⟩ : ∃ p, S.T[k]? = some p := ⟨_, List.getElem?_eq_getElem (by rw [← HN.out]; exact hk)⟩
      obtain ⟨q, o, c', hv', hFq, hqb, hql, hcl0, hfz⟩ := (HA.out.below hbl).all (by rw [← HN.out]; omega)
      have hcl := hcl0 k p hp
      rw [HV1.out] at hv'
      simp only [Value.slice.injEq] at hv'
      obtain ⟨rfl, hNN, rfl⟩ := hv'
      have c1 := hcl 1 (by omega)
      have c4 := hcl 4 (by omega)
      have c5 := hcl 5 (by omega)
      have c6 := hcl 6 (by omega)
      have c7 := hcl 7 (by omega)
      simp only [encTh, List.getElem?_cons_zero, List.getElem?_cons_succ] at c1 c4 c5 c6 c7
      have e1 := Joins.cell_of_block hbw 1
      have e4 := Joins.cell_of_block hbw 4
      have e5 := Joins.cell_of_block hbw 5
      have e6 := Joins.cell_of_block hbw 6
      have e7 := Joins.cell_of_block hbw 7
      simp at e1 e4 e5 e6 e7
      have u1 : decide ((k : Int) < (N : Int)) = true := decide_eq_true (by omega)
      have u2 : decide (k < N) = true := decide_eq_true hk
      have hgp := (HGD.out _ (List.mem_of_getElem? hp)).1
      have heq := fun W => eq4 p.2.a p.2.b p.2.c p.2.d k1 k2 k3 k4 ⟨hgp.2.1, hgp.2.2.1, hgp.2.2.2.1, hgp.2.2.2.2⟩ HG.out.2 W
      have hbl2 : ∀ n, Below X.heap.size X (wr.drewN n) := fun n => hbl.trans (Joins.below_draws _ _ _)
      have HBL := Lib.hid hbl2
      have hne : p.2.key ≠ (k0, k1, k2, k3, k4) := HNK.out p (List.mem_of_getElem? hp)
      unfold Ent.key at hne
      obtain ⟨pi, xk, xa, xb, xc, xd, xl, xv, xm⟩ := p
      simp only at c1 c4 c5 c6 c7 heq hne
      by_cases hkk : xk = k0
      · subst hkk
        rw [decide_eq_false (fun e => hne (by rw [e.1, e.2.1, e.2.2.1, e.2.2.2]))] at heq
        clear hp hcl hcl0 hgp hbl hbl2 hne hbw hNN hfz hFq hql hqb
        go_upto_region 5 with fail
        go_quiet (fail)
        go_wp2_with fail
        exact ⟨⟨k + 1, by go_num, rfl, hk, HBL.out _⟩, by simp [intOf]; omega⟩
      · have g1 : (xk == k0) = false := by simpa using hkk
        clear hp hcl hcl0 hgp hbl hbl2 hne hbw heq hkk hNN hfz hFq hql hqb
        go_upto_region 5 with fail
        go_quiet (fail)
        go_wp2_with fail
        exact ⟨⟨k + 1, by go_num, rfl, hk, HBL.out _⟩, by simp [intOf]; omega⟩
    · have hkN' : k = N := by omega
      subst hkN'
      have u1 : decide ((k : Int) < (k : Int)) = false := decide_eq_false (by omega)
      have u2 : decide (k < k) = false := decide_eq_false (by omega)
      have HA1 := Lib.hid (HA.out.below hbl)
      have HB2 := Lib.hid (HBX.out.trans (hbl.mono HBX.out.size))
      have HBW := Lib.hid hbw
      obtain ⟨cn, hcn⟩ : ∃ cn, cn = countR S.T t := ⟨_, rfl⟩
      obtain ⟨qt, hqt⟩ : ∃ qt, qt = S.quo t := ⟨_, rfl⟩
      have hct : ∀ x : Grow wr, Calls Try.prog 76 #[.pointer (some ⟨b, 0, none⟩), .int .i64 t] x.val fun e w' => e = .returned (.int .i64 (cn : Nat)) ∧ Below x.val.heap.size x.val w' := fun x => by
        have h1 := countR_any b S arr _ vs F t x.val (HA1.out.below x.below)
        rw [tenB_in ht, if_pos rfl, Int.toNat_natCast, ← hcn] at h1
        exact h1
      have HCT := Lib.hid hct
      have gq : ∀ x : Grow wr, x.val.cell? ⟨b, 2 + t, none⟩ = some (.int .i64 qt) := Grow.cells (((HA1.out.cell (2 + t)).trans (HA1.out.c2 t ht)).trans (by rw [hqt]; rfl))
      have HCN := Lib.hid hcn
      have HQT := Lib.hid hqt
      have hwl : w.heap.size < wr.heap.size := lt_of_block hbw
      clear hcn hqt hct hbl b1 hbw
      go_upto_region 10 with fail
      refine wp_region_grow (by kernel_rfl) (by kernel_rfl) ?_
      repeat (go_big_quiet_step ((go_at_call 76; with_reducible exact grow_of (HCT.out _))))
      refine wpQuiet_nil ?_
      intro _ hw'
      obtain ⟨z, hz⟩ := hw'
      subst hz
      obtain ⟨Z, hZ⟩ : ∃ Z, Z = z.val := ⟨_, rfl⟩
      have hzb : Below wr.heap.size wr Z := by rw [hZ]; exact z.below
      rw [← hZ]
      clear gq
      have HA2 := Lib.hid (HA1.out.below hzb)
      have HB3 := Lib.hid (HB2.out.trans (hzb.mono HB2.out.size))
      have hbw2 : Z.heap[w.heap.size]? = _ := (hzb.block _ hwl).trans HBW.out
      have HBW2 := Lib.hid hbw2
      clear hZ hzb hbw2
      by_cases hquo : qt ≤ (cn : Int)
      · have t1 : decide ((cn : Int) ≥ qt) = true := decide_eq_true hquo
        have t2 : decide (qt ≤ (cn : Int)) = true := decide_eq_true hquo
        have HGV := Lib.hid (show GaveR S t (k0, k1, k2, k3, k4) lv va 0 9 S from .inr (.inr (.inr (.inl ⟨HNK.out, by rw [← HQT.out, ← HCN.out]; exact hquo, rfl, rfl, rfl⟩))))
        go_wp2_with fail
        go_ret2
        exact ⟨0, 9, S, F, rfl, HGV.out, ⟨_, _, _, HA2.out⟩, fun i hi => .inl hi, Keeps.of_below HB3.out⟩
      · have t1 : decide ((cn : Int) ≥ qt) = false := decide_eq_false hquo
        have t2 : decide (qt ≤ (cn : Int)) = false := decide_eq_false hquo
        have HQ2 := Lib.hid (show (countR S.T t : Int) < S.quo t by rw [← HQT.out, ← HCN.out]; omega)
        have b1 := (HA2.out.cell 1).trans (HA2.out.c1.trans (congrArg some HV1.out))
        have b0 := (HA2.out.cell 0).trans HA2.out.c0
        obtain ⟨rm, hrm⟩ : ∃ l, l = S.room := ⟨_, rfl⟩
        rw [← hrm] at b0
        have HRM := Lib.hid hrm
        clear hrm
        first | rw [t1] | rw [t2]
        go_upto_region 13 with fail
        go_quiet (fail)
        clear b1 b0
        obtain ⟨X3, hX3⟩ : ∃ Y, Y = Z.drewN nq := ⟨_, rfl⟩
        rw [← hX3]
        have hb33 : Below Z.heap.size Z X3 := by rw [hX3]; exact Joins.below_draws _ _ _
        have HA3 := Lib.hid (HA2.out.below hb33)
        have HK3 := Lib.hid (Keeps.of_below (F := F) (HB3.out.trans (hb33.mono HB3.out.size)))
        have hbw3 : X3.heap[w.heap.size]? = _ := (hb33.block _ (lt_of_block HBW2.out)).trans HBW2.out
        have HBW3 := Lib.hid hbw3
        clear hX3 hb33 hbw3 hquo t1 t2
        go_upto_if 88 with fail
        go_cut [] from 88 to 90 (fun wx => ∃ (S1 : RSt) (F1 : Nat → Prop), Aside (S1 = (if S.room ≤ S.T.length then sweepR S else S) ∧ IsRe b S1 wx F1 ∧ (∀ i, F1 i → F i ∨ X3.heap.size ≤ i) ∧ Keeps F X3 wx))
        case first =>
          by_cases hfull : rm ≤ k
          · have u1 : decide ((k : Int) ≥ (rm : Int)) = true := decide_eq_true (by omega)
            have u2 : decide ((rm : Int) ≤ (k : Int)) = true := decide_eq_true (by omega)
            have u3 : decide (rm ≤ k) = true := decide_eq_true hfull
            have HSW := Lib.hid (sweepR_any b S arr v1 vs F X3 HA3.out)
            go_wp2_with fail
            with_reducible refine HSW.out.mono ?_
            rintro e w4 ⟨rfl, F1, h1, h2, h3⟩
            have H1 : Aside (sweepR S = (if S.room ≤ S.T.length then sweepR S else S) ∧ IsRe b (sweepR S) w4 F1 ∧ (∀ i, F1 i → F i ∨ X3.heap.size ≤ i) ∧ Keeps F X3 w4) := ⟨by rw [if_pos (by rw [← HRM.out, ← HN.out]; exact hfull)], h1, h2, h3⟩
            clear h1 h2 h3
            go_wp2_with fail
            go_meet
            exact ⟨sweepR S, F1, H1⟩
          · have u1 : decide ((k : Int) ≥ (rm : Int)) = false := decide_eq_false (by omega)
            have u2 : decide ((rm : Int) ≤ (k : Int)) = false := decide_eq_false (by omega)
            have u3 : decide (rm ≤ k) = false := decide_eq_false hfull
            have H1 : Aside (S = (if S.room ≤ S.T.length then sweepR S else S) ∧ IsRe b S X3 F ∧ (∀ i, F i → F i ∨ X3.heap.size ≤ i) ∧ Keeps F X3 X3) := ⟨by rw [if_neg (by rw [← HRM.out, ← HN.out]; exact hfull)], ⟨_, _, _, HA3.out⟩, fun i hi => .inl hi, Keeps.refl _ _⟩
            go_wp2_with fail
            go_meet
            exact ⟨S, F, H1⟩
        case rest =>
        obtain ⟨S1, F1, hcut1⟩ := hcut
        have hxw3 : w.heap.size < X3.heap.size := lt_of_block HBW3.out
        have hFne : ∀ i, F1 i → i ≠ w.heap.size := fun i hi e => by
          rcases hcut1.out.2.2.1 i hi with h1 | h1
          · have := HFLT.out i h1; omega
          · omega
        have hbox : wc.heap[w.heap.size]? = some (.cells #[.int .i64 0, .int .i64 k0, .int .i64 lv, .int .i64 va, .int .i64 k1, .int .i64 k2, .int .i64 k3, .int .i64 k4, .int .u64 0] 118 (0, 0)) := by
          rw [hcut1.out.2.2.2.block _ hxw3 (fun h => by have := HFLT.out _ h; omega)]
          exact HBW3.out
        obtain ⟨arr1, v1', vs1, hA4⟩ := hcut1.out.2.1
        obtain ⟨a1, c1, hv1', hc1, hm1, ha1⟩ := hA4.list.form
        have hS1 := hcut1.out.1
        have hS1r : S1.room = S.room := by rw [hS1]; split <;> rfl
        have hS1s : S1.sn t = S.sn t := by rw [hS1]; split <;> rfl
        obtain ⟨n, hn⟩ : ∃ n, n = S1.T.length := ⟨_, rfl⟩
        rw [← hn] at hv1' hc1 ha1
        have hnf : n ≤ 200000 := by rw [hn]; exact hA4.few
        have b1 := (hA4.cell 1).trans (hA4.c1.trans (congrArg some hv1'))
        have b0 := (hA4.cell 0).trans hA4.c0
        rw [hS1r, ← HRM.out] at b0
        have HS1 := Lib.hid hS1
        have HS1R := Lib.hid hS1r
        have HS1S := Lib.hid hS1s
        have HN1 := Lib.hid hn
        have HV2 := Lib.hid hv1'
        have HA4 := Lib.hid hA4
        have HF1 := Lib.hid hcut1.out.2.2.1
        have HK4 := Lib.hid (HK3.out.trans hcut1.out.2.2.2 (fun _ _ h => h))
        have HBOX := Lib.hid hbox
        have HFNE := Lib.hid hFne
        have HX3 := Lib.hid (show w.heap.size < X3.heap.size ∧ X3.heap.size ≤ wc.heap.size from ⟨hxw3, hcut1.out.2.2.2.size⟩)
        clear hS1 hS1r hS1s hn hv1' hA4 hcut1 hbox hFne hxw3 hm1 ha1 hc1
        go_upto_region 15 with fail
        go_quiet (fail)
        clear b1 b0
        obtain ⟨X5, hX5⟩ : ∃ Y, Y = wc.drewN nq := ⟨_, rfl⟩
        rw [← hX5]
        have hb55 : Below wc.heap.size wc X5 := by rw [hX5]; exact Joins.below_draws _ _ _
        have HA5 := Lib.hid (HA4.out.below hb55)
        have HK5 := Lib.hid (HK4.out.trans (Keeps.of_below (F := F) hb55) (fun _ _ h => h))
        have hbx5 : X5.heap[w.heap.size]? = some (.cells #[.int .i64 0, .int .i64 k0, .int .i64 lv, .int .i64 va, .int .i64 k1, .int .i64 k2, .int .i64 k3, .int .i64 k4, .int .u64 0] 118 (0, 0)) := (hb55.block _ (lt_of_block HBOX.out)).trans HBOX.out
        have HBX5 := Lib.hid hbx5
        have HZ5 := Lib.hid hb55.size
        clear hX5 hb55
        by_cases hful : rm ≤ n
        · have u1 : decide ((n : Int) ≥ (rm : Int)) = true := decide_eq_true (by omega)
          have u2 : decide ((rm : Int) ≤ (n : Int)) = true := decide_eq_true (by omega)
          have u3 : decide (rm ≤ n) = true := decide_eq_true hful
          have HG := Lib.hid (show GaveR S t (k0, k1, k2, k3, k4) lv va 0 5 S1 from .inr (.inr (.inr (.inr ⟨HNK.out, HQ2.out, S1, HS1.out, .inl ⟨by rw [HS1R.out, ← HRM.out, ← HN1.out]; exact hful, rfl, rfl, rfl⟩⟩))))
          clear hbx5
          go_wp2_with fail
          go_ret2
          exact ⟨0, 5, S1, F1, rfl, HG.out, ⟨_, _, _, HA5.out⟩, fun i hi => (HF1.out i hi).imp id (fun h => by have := HX3.out; omega), HK5.out⟩
        · have u1 : decide ((n : Int) ≥ (rm : Int)) = false := decide_eq_false (by omega)
          have u2 : decide ((rm : Int) ≤ (n : Int)) = false := decide_eq_false (by omega)
          have u3 : decide (rm ≤ n) = false := decide_eq_false hful
          have HFL := Lib.hid (show S1.T.length < S1.room by rw [HS1R.out, ← HRM.out, ← HN1.out]; omega)
          have x0 := Joins.cell_of_block hbx5 0
          simp at x0
          have fz := Joins.unfrozen_of_block hbx5 0
          have hbx6 : (X5.setCell ⟨w.heap.size, 0, none⟩ (.int .i64 2)).heap[w.heap.size]? = some (.cells #[.int .i64 2, .int .i64 k0, .int .i64 lv, .int .i64 va, .int .i64 k1, .int .i64 k2, .int .i64 k3, .int .i64 k4, .int .u64 0] 118 (0, 0)) := Joins.block_setCell hbx5 _
          have hk6 : Keeps (fun i => i = w.heap.size) X5 (X5.setCell ⟨w.heap.size, 0, none⟩ (.int .i64 2)) := (Keeps.refl (fun i => i = w.heap.size) X5).setCell (p := ⟨w.heap.size, 0, none⟩) (fun _ => rfl) _
          have HBX6 := Lib.hid hbx6
          have HK6 := Lib.hid hk6
          clear hbx5 hbx6 hk6
          first | rw [u1] | rw [u2] | rw [u3]
          go_wp2_with fail
          clear u1 u2 u3 x0 fz
          go_loopw [] (fun ws => ∃ id : Nat, 2 ≤ id ∧ Aside (∀ j, 2 ≤ j → j < id → ∃ p ∈ S1.T, p.1 = j) ∧ ws.heap[w.heap.size]? = some (.cells #[.int .i64 id, .int .i64 k0, .int .i64 lv, .int .i64 va, .int .i64 k1, .int .i64 k2, .int .i64 k3, .int .i64 k4, .int .u64 0] 118 (0, 0)) ∧ Keeps (fun i => i = w.heap.size) X5 ws) (fun ws => (n + 3) - boxNum ws w.heap.size)
          case atStart => exact ⟨2, by omega, (show ∀ j, 2 ≤ j → j < 2 → ∃ p ∈ S1.T, p.1 = j from fun j h1 h2 => by omega), HBX6.out, HK6.out⟩
          case round =>
            obtain ⟨id, h2id, HLE, hbx, hkx⟩ := hrel
            have hidb := least_bound HLE.out
            rw [← HN1.out] at hidb
            have hA := HA5.out.keep hkx HFNE.out
            have HA6 := Lib.hid hA
            have HAT := Lib.hid (at_any b S1 arr1 v1' vs1 F1 id wr hA)
            have x0 := Joins.cell_of_block hbx 0
            simp at x0
            have fz := Joins.unfrozen_of_block hbx 0
            have HBX := Lib.hid hbx
            have HKX := Lib.hid hkx
            clear hA hbx hkx
            cases hnn : thN S1.T (id : Int) with
            | some j =>
              obtain ⟨huse, hjl⟩ := thN_used hnn
              obtain ⟨q, o, c', hv', -, -, -, -, -⟩ := HA6.out.all (by omega)
              rw [hnn, hv'] at HAT
              rw [show thP (.slice (some ⟨q, o, none⟩) S1.T.length c') (some j) = some ⟨q, o + j * 9, none⟩ from rfl] at HAT
              obtain ⟨id1, hid1⟩ : ∃ m, m = id + 1 := ⟨_, rfl⟩
              have hi1 : IntKind.i64.wrap ((id : Int) + 1) = ((id1 : Nat) : Int) := by rw [wrap_small _ (by omega) (by omega)]; omega
              have HLE2 : Aside (∀ j, 2 ≤ j → j < id1 → ∃ p ∈ S1.T, p.1 = j) := fun j h1 h2 => by
                by_cases e : j = id
                · rw [e]; exact huse
                · exact HLE.out j h1 (by omega)
              have HB7 := Lib.hid (Joins.block_setCell HBX.out (i := 0) (.int .i64 (id1 : Int)))
              have HM := Lib.hid (show boxNum wr w.heap.size = id by unfold boxNum; rw [x0]; rfl)
              have HM2 := Lib.hid (show boxNum (wr.setCell ⟨w.heap.size, 0, none⟩ (.int .i64 (id1 : Int))) w.heap.size = id1 by
                have h0 := Joins.cell_of_block HB7.out 0
                unfold boxNum
                rw [h0]
                rfl)
              have HID1 := Lib.hid hid1
              clear hnn huse hv' hjl hid1
              go_wp2_with fail
              with_reducible refine HAT.out.mono ?_
              rintro e w2 ⟨rfl, rfl⟩
              go_wp2_with fail
              exact ⟨⟨id1, by have := HID1.out; omega, HLE2, HB7.out, HKX.out.setCell (p := ⟨w.heap.size, 0, none⟩) (fun _ => rfl) _⟩, by rw [HM.out, HM2.out]; have := HID1.out; omega⟩
            | none =>
              rw [hnn, thP_none] at HAT
              have HID := Lib.hid (show LeastR S1.T id from ⟨h2id, thN_free hnn, HLE.out⟩)
              clear hnn
              go_wp2_with fail
              with_reducible refine HAT.out.mono ?_
              rintro e w2 ⟨rfl, rfl⟩
              go_wp2_with fail
              obtain ⟨Y, hY⟩ : ∃ Y, Y = w2 := ⟨_, rfl⟩
              rw [← hY] at HA6 HBX HKX ⊢
              clear x0 fz hY
              have b1 := (HA6.out.cell 1).trans (HA6.out.c1.trans (congrArg some HV2.out))
              go_wp2_with fail
              clear b1
              go_loopw [10] (fun kv ws => ∃ k : Nat, kv = .int .i64 k ∧ k ≤ n ∧ Aside (∀ j p, j < k → S1.T[j]? = some p → p.1 < id) ∧ Below Y.heap.size Y ws) (fun kv _ => n - (intOf kv).toNat)
              case atStart => exact ⟨0, rfl, Nat.zero_le _, (show ∀ j p, j < 0 → S1.T[j]? = some p → p.1 < id from fun j p h => by omega), Below.refl _ _⟩
              case round =>
                obtain ⟨m, rfl, hmn, HIN, hbl⟩ := hrel
                have hA := HA6.out.below hbl
                have hbx := (hbl.block _ (lt_of_block HBX.out)).trans HBX.out
                have x0 := Joins.cell_of_block hbx 0
                simp at x0
                have b1 := (hA.cell 1).trans (hA.c1.trans (congrArg some HV2.out))
                have hbl2 : ∀ q, Below Y.heap.size Y (wr.drewN q) := fun q => hbl.trans (Joins.below_draws _ _ _)
                have HBL := Lib.hid hbl2
                have HA7 := Lib.hid hA
                clear hbl hbl2 hbx
                by_cases hm : m < n
                · obtain ⟨p, hp⟩ : ∃ p, S1.T[m]? = some p := ⟨_, List.getElem?_eq_getElem (by rw [← HN1.out]; exact hm)⟩
                  obtain ⟨q, o, c', hv', hFq, hqb, hql, hcl, hfz⟩ := hA.all (by rw [← HN1.out]; omega)
                  rw [HV2.out] at hv'
                  simp only [Value.slice.injEq] at hv'
                  obtain ⟨rfl, -, rfl⟩ := hv'
                  have c0 := hcl m p hp 0 (by omega)
                  simp only [encTh, List.getElem?_cons_zero, Nat.add_zero] at c0
                  obtain ⟨pi, px⟩ := p
                  simp only at c0
                  have HP := Lib.hid hp
                  have u1 : decide ((m : Int) < (n : Int)) = true := decide_eq_true (by omega)
                  have u2 : decide (m < n) = true := decide_eq_true hm
                  clear hp hcl hfz hFq hqb hql hA
                  by_cases hpi : pi < id
                  · have t1 : decide ((pi : Int) < (id : Int)) = true := decide_eq_true (by omega)
                    have t2 : decide (pi < id) = true := decide_eq_true hpi
                    have HI2 : Aside (∀ j p, j < m + 1 → S1.T[j]? = some p → p.1 < id) := fun j p hj hjp => by
                      by_cases e : j = m
                      · rw [e, HP.out] at hjp
                        obtain rfl := Option.some.inj hjp
                        exact hpi
                      · exact HIN.out j p (by omega) hjp
                    go_upto_region 21 with fail
                    go_quiet (fail)
                    go_wp2_with fail
                    exact ⟨⟨m + 1, by go_num, hm, HI2, HBL.out _⟩, by simp [intOf]; omega⟩
                  · have t1 : decide ((pi : Int) < (id : Int)) = false := decide_eq_false (by omega)
                    have t2 : decide (pi < id) = false := decide_eq_false hpi
                    have HIA := Lib.hid (show InsAt S1.T id m from ⟨by rw [← HN1.out]; exact hmn, HIN.out, fun p hp => by
                      rw [HP.out] at hp
                      obtain rfl := Option.some.inj hp
                      exact hpi⟩)
                    clear hpi
                    go_upto_region 21 with fail
                    go_quiet (fail)
                    obtain ⟨V, hV⟩ : ∃ V, V = wr.drewN nq := ⟨_, rfl⟩
                    rw [← hV]
                    clear x0 b1 t1 t2 u1 u2
                    have hbV : Below Y.heap.size Y V := by rw [hV]; exact HBL.out _
                    have HAV := Lib.hid (HA6.out.below hbV)
                    have HBV := Lib.hid ((hbV.block _ (lt_of_block HBX.out)).trans HBX.out)
                    have HKV := Lib.hid (HKX.out.below hbV)
                    have b1 := (HAV.out.cell 1).trans (HAV.out.c1.trans (congrArg some HV2.out))
                    obtain ⟨i0, hi, hz0, hz1, hz2⟩ := info_parts infoTh
                    have hrow := HAV.out.list
                    rw [HV2.out, ← HN1.out] at hrow
                    have hbV2 := lt_of_block HAV.out.own
                    have hbn : some b ≠ (Value.slice (some ⟨q, o, none⟩) n c1).ownBlock := fun e => hrow.ne_type HAV.out.own (by decide) e.symm
                    have hwn : some w.heap.size ≠ (Value.slice (some ⟨q, o, none⟩) n c1).ownBlock := fun e => HFNE.out _ (HAV.out.f1 w.heap.size (by rw [HV2.out]; exact e.symm)) rfl
                    have HR7 := Lib.hid (show Row (V.alloc (.cells #[.int .i64 0, .int .i64 0, .int .i64 0, .int .i64 0, .int .i64 0, .int .i64 0, .int .i64 0, .int .i64 0, .int .u64 0] 118)) 118 9 (.slice (some ⟨q, o, none⟩) n c1) n (encTs S1.T) from hrow.keep fun q hq => Below.heap_alloc V _ q (hrow.lt q hq))
                    have M3 := Lib.hid (show n + 1 ≤ maxLen by unfold maxLen; omega)
                    have M4 := Lib.hid (show (n + 1) * 72 ≤ 140737488355328 by omega)
                    have HBN := Lib.hid hbn
                    have HWN := Lib.hid hwn
                    clear hV hbV hrow hbn hwn
                    go_upto_region 23 with fail
                    go_wp2_with ((at_builtin; go_loud (refine wpList_append_row _ rfl (.tmp 137) (.tmp 139) 65 rfl 118 i0 _ 9 72 Try.underlying65 hi hz0 hz1 hz2 rfl (by omega) (.slice (some ⟨q, o, none⟩) n c1) n (encTs S1.T) rfl HR7.out ⟨V.heap.size, 0, none⟩ 1 1 [.int .i64 0, .int .i64 0, .int .i64 0, .int .i64 0, .int .i64 0, .int .i64 0, .int .i64 0, .int .i64 0, .int .u64 0] rfl rfl (news_alloc V _ _ rfl) (by simp [Value.oneCell']) (by omega) M3.out M4.out _ rfl ?_; intro g6 off6 cap w6 hrow6 hg6 hat6; have z1 : w6.cell? ⟨b, 1, none⟩ = some (.slice (some ⟨q, o, none⟩) n c1) := (hg6.cell_far (a := ⟨b, 1, none⟩) (by simp; omega) HBN.out).trans ((World.cell?_of_block (Below.heap_alloc V _ b hbV2)).trans b1); have z2 : w6.frozen? ⟨b, 1, none⟩ = false := (hg6.frozen_far (a := ⟨b, 1, none⟩) (by simp; omega) HBN.out).trans ((World.frozen?_of_block (Below.heap_alloc V _ b hbV2)).trans (Joins.unfrozen_of_block HAV.out.own 1)))))
                    have hF1w : ∀ i, F1 i → F i ∨ w.heap.size ≤ i := fun i hi => (HF1.out i hi).imp (fun h => h) (fun h => by have := HX3.out; omega)
                    have hvF : ∀ i, v1'.ownBlock = some i → F1 i := fun i e => HAV.out.f1 i e
                    have hkg : Keeps (fun i => v1'.ownBlock = some i) V w6 := Keeps.grown ((Keeps.refl (fun i => v1'.ownBlock = some i) V).alloc (.cells #[.int .i64 0, .int .i64 0, .int .i64 0, .int .i64 0, .int .i64 0, .int .i64 0, .int .i64 0, .int .i64 0, .int .u64 0] 118)) hg6 fun g' hg' _ => by rw [HV2.out]; exact hg'
                    have hrY : Row w6 118 9 (.slice (some ⟨g6, off6, none⟩) (n + 1) cap) (S1.T ++ [(0, zeroE)]).length (encTs (S1.T ++ [(0, zeroE)])) := by
                      rw [encTs_append, List.length_append, List.length_singleton, ← HN1.out]
                      exact hrow6
                    have hnlt : n < 200000 := by
                      have h1 := HFL.out
                      have h2 := HROOM.out
                      rw [HS1R.out] at h1
                      have h3 := HN1.out
                      omega
                    have hAY := HAV.out.newlist hkg hrY (by rw [List.length_append, List.length_singleton, ← HN1.out]; omega)
                    have hKW : Keeps F w w6 := (HK5.out.trans HKV.out (fun i hi e => by omega)).trans hkg (fun i hi e => (hF1w i (hvF i e)).resolve_right (by omega))
                    have hwV := lt_of_block HBV.out
                    have hbw6 : w6.heap[w.heap.size]? = some (.cells #[.int .i64 id, .int .i64 k0, .int .i64 lv, .int .i64 va, .int .i64 k1, .int .i64 k2, .int .i64 k3, .int .i64 k4, .int .u64 0] 118 (0, 0)) := by
                      rw [hg6.block _ (by simp; omega) HWN.out]
                      exact (Below.heap_alloc V _ _ hwV).trans HBV.out
                    have hne6 : w.heap.size ≠ g6 := fun e => by
                      rcases hat6 with h1 | h1
                      · exact HWN.out (by rw [e]; exact h1.symm)
                      · rw [h1] at e; simp at e; omega
                    have hF6 : ∀ i, (F1 i ∨ (Value.slice (some ⟨g6, off6, none⟩) (n + 1) cap).ownBlock = some i) → F i ∨ w.heap.size ≤ i := fun i hi => by
                      rcases hi with hi | hi
                      · exact hF1w i hi
                      · obtain rfl : g6 = i := by simpa [Value.ownBlock] using hi
                        rcases hat6 with h1 | h1
                        · exact hF1w g6 (hvF g6 (by rw [HV2.out]; exact h1))
                        · exact .inr (by rw [h1]; simp; omega)
                    obtain ⟨Y1, hY1⟩ : ∃ Y1, Y1 = w6.setCell ⟨b, 1, none⟩ (.slice (some ⟨g6, off6, none⟩) (n + 1) cap) := ⟨_, rfl⟩
                    rw [← hY1] at hAY ⊢
                    have hbxY : Y1.heap[w.heap.size]? = some (.cells #[.int .i64 id, .int .i64 k0, .int .i64 lv, .int .i64 va, .int .i64 k1, .int .i64 k2, .int .i64 k3, .int .i64 k4, .int .u64 0] 118 (0, 0)) := by
                      rw [hY1, Below.heap_setCell _ _ _ _ (show w.heap.size ≠ b from fun e => HFNE.out b HAV.out.fb e.symm)]
                      exact hbw6
                    have hKY : Keeps F w Y1 := by rw [hY1]; exact hKW.setCell (p := ⟨b, 1, none⟩) (fun _ => HFB.out) _
                    have hrowY := hAY.list
                    rw [show ({ S1 with T := S1.T ++ [(0, zeroE)] } : RSt).T = S1.T ++ [(0, zeroE)] from rfl, List.length_append, List.length_singleton, ← HN1.out] at hrowY
                    obtain ⟨a9, c9, hform, hcap, -, -⟩ := hrowY.form
                    simp only [Value.slice.injEq, true_and] at hform
                    obtain ⟨-, rfl⟩ := hform
                    have b1 := (hAY.cell 1).trans hAY.c1
                    have HAY := Lib.hid hAY
                    have HBXY := Lib.hid hbxY
                    have HKY := Lib.hid hKY
                    have HF6 := Lib.hid hF6
                    have HNE6 := Lib.hid hne6
                    have HRY := Lib.hid hrowY
                    have hg6b : g6 ≠ b := fun e => hrowY.ne_type hAY.own (by decide) (by rw [e]; rfl)
                    have HG6B := Lib.hid hg6b
                    have HSN1 := Lib.hid (show (S1.sn t).length ≤ 200000 by rw [HS1S.out]; exact HSF.out)
                    clear hF1w hvF hkg hrY hAY hKW hwV hbw6 hne6 hF6 hY1 hbxY hKY hrowY hrow6 hg6 hat6 hi hz0 hz1 hz2 hg6b
                    obtain ⟨w2, hcp, hR2, hK2⟩ := row_shift (w := Y1.drew) (g := g6) (o := off6) (n := n) (cap := cap) (k := m) (T := S1.T) (z := (0, zeroE)) HRY.out.drew' HN1.out.symm hm (cap - (m + 1)) (cap - m)
                    obtain ⟨ys, hys⟩ : ∃ ys, ys = S1.T.take (m + 1) ++ S1.T.drop m := ⟨_, rfl⟩
                    rw [← hys] at hR2
                    have hyl : ys.length = n + 1 := by rw [hys, List.length_append, List.length_take, List.length_drop, ← HN1.out]; omega
                    have hset : ∀ c : Nat × Ent, ys.set m c = S1.T.take m ++ c :: S1.T.drop m := fun c => by
                      have hml : m < S1.T.length := by rw [← HN1.out]; exact hm
                      have e : S1.T.take (m + 1) = S1.T.take m ++ [S1.T[m]] := by rw [List.take_add_one, List.getElem?_eq_getElem hml]; rfl
                      rw [hys, e, List.append_assoc, List.set_append_right _ _ (by rw [List.length_take]; omega), List.length_take, show m - min m S1.T.length = 0 by omega]
                      rfl
                    have HSET := Lib.hid hset
                    have HYL := Lib.hid hyl
                    have HR2 := Lib.hid hR2
                    have HK2 := Lib.hid hK2
                    clear hys hset hyl hR2 hK2
                    have hw1 : IntKind.i64.wrap ((m : Int) + 1) = (m : Int) + 1 := wrap_small _ (by omega) (by omega)
                    have hw2 : ((m : Int) + 1).toNat = m + 1 := by omega
                    have hw3 : (0 : Int) ≤ (m : Int) + 1 := by omega
                    have hw4 : (m : Int) + 1 ≤ (n : Int) + 1 := by omega
                    have hw5 : ¬ cap = m + 1 := by omega
                    have hw6 : ¬ cap = m := by omega
                    have hw7 : (m : Int) ≤ (n : Int) + 1 := by omega
                    go_upto_region 24 with fail
                    go_cut [] from 143 to 156 (fun wx => wx = w2)
                    case first =>
                      go_region_law (fail)
                      all_goals
                        go_wp2_with fail
                        go_meet
                        rfl
                    case rest =>
                    obtain rfl : w2 = wc := hcut.symm
                    clear hcp hw1 hw2 hw3 hw4 hw5 hw6 hw7 b1
                    have hbx2 : w2.heap[w.heap.size]? = some (.cells #[.int .i64 id, .int .i64 k0, .int .i64 lv, .int .i64 va, .int .i64 k1, .int .i64 k2, .int .i64 k3, .int .i64 k4, .int .u64 0] 118 (0, 0)) := (HK2.out.block _ (lt_of_block HBXY.out) HNE6.out).trans HBXY.out
                    have hA2 := HAY.out.relist ((((Keeps.refl (fun i => i = g6) Y1).drew).trans HK2.out (fun _ _ h => h)).mono (G := fun i => (Value.slice (some ⟨g6, off6, none⟩) (n + 1) cap).ownBlock = some i) (fun i _ e => by subst e; rfl)) (T' := ys) (by rw [HYL.out]; exact HR2.out) (by rw [HYL.out]; omega)
                    have x0 := Joins.cell_of_block hbx2 0
                    have x1 := Joins.cell_of_block hbx2 1
                    have x2 := Joins.cell_of_block hbx2 2
                    have x3 := Joins.cell_of_block hbx2 3
                    have x4 := Joins.cell_of_block hbx2 4
                    have x5 := Joins.cell_of_block hbx2 5
                    have x6 := Joins.cell_of_block hbx2 6
                    have x7 := Joins.cell_of_block hbx2 7
                    have x8 := Joins.cell_of_block hbx2 8
                    simp at x0 x1 x2 x3 x4 x5 x6 x7 x8
                    have y1 := (hA2.cell 1).trans hA2.c1
                    have hkl : m < ys.length := by rw [HYL.out]; omega
                    obtain ⟨z0, hz0⟩ : ∃ z, ys[m]? = some z := ⟨ys[m], List.getElem?_eq_getElem hkl⟩
                    obtain ⟨q9, o9, c9, hv9, -, -, hql9, hcl9, hfz9⟩ := hA2.all (by show 0 < ys.length; omega)
                    simp only [Value.slice.injEq, Option.some.injEq, Addr.mk.injEq, and_true] at hv9
                    obtain ⟨⟨rfl, rfl⟩, -, rfl⟩ := hv9
                    have f0 := hcl9 m z0 hz0 0 (by omega)
                    have f1 := hcl9 m z0 hz0 1 (by omega)
                    have f2 := hcl9 m z0 hz0 2 (by omega)
                    have f3 := hcl9 m z0 hz0 3 (by omega)
                    have f4 := hcl9 m z0 hz0 4 (by omega)
                    have f5 := hcl9 m z0 hz0 5 (by omega)
                    have f6 := hcl9 m z0 hz0 6 (by omega)
                    have f7 := hcl9 m z0 hz0 7 (by omega)
                    have f8 := hcl9 m z0 hz0 8 (by omega)
                    simp only [encTh, List.getElem?_cons_zero, List.getElem?_cons_succ, Nat.add_zero] at f0 f1 f2 f3 f4 f5 f6 f7 f8
                    have hrt := rowT_thing (i := m) (T := ys) (u := z0) (by rw [HYL.out]; exact HR2.out) hz0 id k0 lv va k1 k2 k3 k4 0
                    have hy9 : ys.set m (id, (⟨k0, k1, k2, k3, k4, lv, va, 0⟩ : Ent)) = S1.T.take m ++ (id, ⟨k0, k1, k2, k3, k4, lv, va, 0⟩) :: S1.T.drop m := HSET.out _
                    have hK8 : Keeps (fun i => i = g6) w2 (store9 w2 g6 (off6 + m * 9) id k0 lv va k1 k2 k3 k4 0) := keeps_store9 (G := fun i => i = g6) rfl _ _ _ _ _ _ _ _ _
                    have HA8 := Lib.hid (hA2.relist (hK8.mono (G := fun i => (Value.slice (some ⟨g6, off6, none⟩) (n + 1) cap).ownBlock = some i) (fun i _ e => by subst e; rfl)) (T' := ys.set m (id, (⟨k0, k1, k2, k3, k4, lv, va, 0⟩ : Ent))) (by rw [List.length_set]; rw [HYL.out] at hrt ⊢; exact hrt) (by rw [List.length_set, HYL.out]; omega))
                    have HY9 := Lib.hid hy9
                    have HK8 := Lib.hid hK8
                    have HHA2 := Lib.hid hA2
                    clear hz0 hcl9 hrt hK8 hA2 hbx2 hy9
                    go_upto_region 25 with fail
                    go_region
                    clear x0 x1 x2 x3 x4 x5 x6 x7 x8 y1 f0 f1 f2 f3 f4 f5 f6 f7 f8 hfz9
                    obtain ⟨e0, he0⟩ : ∃ e0 : Nat × Ent, e0 = (id, ⟨k0, k1, k2, k3, k4, lv, va, 0⟩) := ⟨_, rfl⟩
                    obtain ⟨W8, hW8⟩ : ∃ W, W = (store9 w2 g6 (off6 + m * 9) id k0 lv va k1 k2 k3 k4 0).drew := ⟨_, rfl⟩
                    have hW8' := hW8
                    unfold store9 at hW8'
                    rw [show ((0 : Nat) : Int) = 0 from rfl] at hW8'
                    rw [← hW8']
                    clear hW8'
                    have hA8 := HA8.out.keep (w' := W8) (G := fun _ => False) (by rw [hW8]; exact (Keeps.refl _ _).drew) (fun _ _ h => h)
                    rw [← he0] at hA8
                    have hK28 : Keeps (fun i => i = g6) w2 W8 := by rw [hW8]; exact HK8.out.drew
                    have hTm : (ys.set m e0)[m]? = some e0 := List.getElem?_set_self hkl
                    obtain ⟨q9, o9, c9, hv9, -, -, hql8, hcl9, hfz9⟩ := hA8.all (by show 0 < (ys.set m e0).length; rw [List.length_set]; omega)
                    simp only [Value.slice.injEq, Option.some.injEq, Addr.mk.injEq, and_true] at hv9
                    obtain ⟨⟨rfl, rfl⟩, -, rfl⟩ := hv9
                    have m0 := hcl9 m e0 hTm 0 (by omega)
                    have m8 := hcl9 m e0 hTm 8 (by omega)
                    rw [he0] at m0 m8
                    simp only [encTh, List.getElem?_cons_zero, List.getElem?_cons_succ, Nat.add_zero] at m0 m8
                    have ff := hfz9 (off6 + m * 9 + 8)
                    have b1 := (hA8.cell 1).trans hA8.c1
                    have hor := or_bit (ma := 0) (by omega) ht
                    rw [show ((0 : Nat) : Int) = 0 from rfl] at hor m8
                    obtain ⟨mm, hmm⟩ : ∃ mm, mm = 0 ||| 2 ^ t := ⟨_, rfl⟩
                    rw [← hmm] at hor
                    have hlist : Row W8 118 9 (.slice (some ⟨g6, off6, none⟩) (n + 1) cap) (ys.set m e0).length (encTs (ys.set m e0)) := hA8.list
                    rw [List.length_set, HYL.out] at hlist
                    have hR9 := rowT_cell (k := 8) (i := m) (T := ys.set m e0) (u := e0) (o' := (id, (⟨k0, k1, k2, k3, k4, lv, va, mm⟩ : Ent))) (v := .int .u64 (mm : Int)) (by rw [List.length_set, HYL.out]; exact hlist) hTm (by omega) (by rw [he0]; rfl)
                    obtain ⟨W9, hW9⟩ : ∃ W, W = W8.setCell ⟨g6, off6 + m * 9 + 8, none⟩ (.int .u64 (mm : Int)) := ⟨_, rfl⟩
                    have hK9 : Keeps (fun j => (Value.slice (some ⟨g6, off6, none⟩) (n + 1) cap).ownBlock = some j) W8 W9 := by rw [hW9]; exact (Keeps.refl (fun j => (Value.slice (some ⟨g6, off6, none⟩) (n + 1) cap).ownBlock = some j) W8).setCell (p := ⟨g6, off6 + m * 9 + 8, none⟩) (fun _ => rfl) _
                    rw [← hW9] at hR9
                    have hW9s := hW9.symm
                    obtain ⟨T9, hT9⟩ : ∃ T9, T9 = (ys.set m e0).set m (id, (⟨k0, k1, k2, k3, k4, lv, va, mm⟩ : Ent)) := ⟨_, rfl⟩
                    rw [← hT9] at hR9
                    have hl9 : T9.length = n + 1 := by rw [hT9, List.length_set, List.length_set]; exact HYL.out
                    have hA9 : ReAt b { S1 with T := T9 } _ (.slice (some ⟨g6, off6, none⟩) (n + 1) cap) vs1 W9 _ := hA8.relist hK9 (by rw [hl9] at hR9 ⊢; exact hR9) (by omega)
                    have m0' : W9.cell? ⟨g6, off6 + m * 9, none⟩ = some (.int .i64 id) := by rw [hW9]; exact (World.cell?_setCell_other _ _ _ _ (by intro h; simp only [Addr.mk.injEq] at h; omega)).trans m0
                    have HA9 := Lib.hid hA9
                    have HT9 := Lib.hid (show T9 = S1.T.take m ++ (id, (⟨k0, k1, k2, k3, k4, lv, va, mm⟩ : Ent)) :: S1.T.drop m by rw [hT9, List.set_set]; exact HSET.out _)
                    have HMM := Lib.hid hmm
                    have hg6F : g6 < w.heap.size → F g6 := fun hi => (HF6.out g6 (.inr rfl)).resolve_right (by omega)
                    have HK9 := Lib.hid (((HKY.out.drew.trans HK2.out (fun i hi e => by subst e; exact hg6F hi)).trans hK28 (fun i hi e => by subst e; exact hg6F hi)).trans hK9 (fun i hi e => by
                      obtain rfl : g6 = i := by simpa [Value.ownBlock] using e
                      exact hg6F hi))
                    have hg9 : g6 < W9.heap.size := Nat.lt_of_lt_of_le hql8 hK9.size
                    clear hcl9 hfz9 hlist hR9 hmm hW9 hT9 hK9 hA9 hA8 m0 hl9 hW8 hTm he0 hK28 hg6F
                    go_upto_region 28 with fail
                    have hb9 := HA9.out.own
                    have hlen := HA9.out.len
                    obtain ⟨v, hv⟩ : ∃ v, vs1[t]? = some v := ⟨_, List.getElem?_eq_getElem (by rw [hlen]; exact ht)⟩
                    have hvr := HA9.out.rows t v hv
                    rw [show ({ S1 with T := T9 } : RSt).sn t = S1.sn t from rfl] at hvr
                    obtain ⟨va', vc', hvf, _, _, _⟩ := hvr.form
                    have w66 := (HA9.out.cell (66 + t)).trans ((HA9.out.c3 t ht).trans hv)
                    obtain ⟨qn, hqn⟩ : ∃ qn, qn = (S1.sn t).length := ⟨_, rfl⟩
                    rw [hvf, ← hqn] at w66
                    rw [hvf, ← hqn] at hvr
                    have hsf := HSN1.out
                    rw [← hqn] at hsf
                    have hvb : some b ≠ (Value.slice va' qn vc').ownBlock := fun e => hvr.ne_type hb9 (by decide) e.symm
                    have hbl := lt_of_block hb9
                    have hr11 : Row (W9.drew.alloc (.cells #[.int .i64 id] 3)) 3 1 (.slice va' qn vc') qn ((S1.sn t).map idV) := hvr.keep fun g hg => Below.heap_alloc W9.drew _ g (hvr.lt g hg)
                    obtain ⟨i1, hi1, hz10, hz11, hz12⟩ := info_parts infoNum
                    have hvq : some g6 ≠ (Value.slice va' qn vc').ownBlock := fun e => by
                      obtain ⟨cur, hc⟩ := HA9.out.list.typed g6 rfl
                      exact hvr.ne_type hc (by decide) e.symm
                    have HQNE := Lib.hid hvq
                    have H11 := Lib.hid hr11
                    have HBN9 := Lib.hid hvb
                    have HB9 := Lib.hid hb9
                    have HVF := Lib.hid hvf
                    have HQN := Lib.hid hqn
                    have HV := Lib.hid hv
                    have fz9 : W9.frozen? ⟨b, 66 + t, none⟩ = false := Joins.unfrozen_of_block hb9 _
                    clear hb9 hlen hv hvr hvf hqn hvb hr11 hvq hor m8 ff hW9s b1
                    go_region_law ((refine step_append_row _ rfl (.tmp 187) (.tmp 192) 57 rfl 3 i1 _ 1 8 Try.underlying57 hi1 hz10 hz11 hz12 rfl (by omega) (.slice va' qn vc') qn ((S1.sn t).map idV) rfl H11.out ⟨W9.heap.size, 0, none⟩ 1 1 [.int .i64 id] rfl rfl (news_alloc W9.drew _ _ rfl) (by simp [Value.oneCell']) (by omega) (by unfold maxLen; omega) (by omega) _ rfl ?_; intro g9 off cap9 w11 hrow hg11 hat; have z1 : w11.cell? ⟨b, 66 + t, none⟩ = some (.slice va' qn vc') := (hg11.cell_far (a := ⟨b, 66 + t, none⟩) (by simp; omega) HBN9.out).trans ((World.cell?_of_block (Below.heap_alloc W9.drew _ b hbl)).trans w66); have z2 : w11.frozen? ⟨b, 66 + t, none⟩ = false := (hg11.frozen_far (a := ⟨b, 66 + t, none⟩) (by simp; omega) HBN9.out).trans ((World.frozen?_of_block (Below.heap_alloc W9.drew _ b hbl)).trans (Joins.unfrozen_of_block HB9.out (66 + t))); have z3 : w11.cell? ⟨g6, off6 + m * 9, none⟩ = some (.int .i64 id) := (hg11.cell_far (a := ⟨g6, off6 + m * 9, none⟩) (by simp; omega) HQNE.out).trans ((World.cell?_of_block (Below.heap_alloc W9.drew _ g6 hg9)).trans m0')))
                    all_goals
                      have hgb := HG6B.out
                      go_wp2_with fail
                      go_ret2
                      have hVF := HVF.out
                      have hQN := HQN.out
                      rw [← hQN] at hVF
                      have hvo : ∀ q', (Value.slice (some ⟨g9, off, none⟩) (qn + 1) cap9).ownBlock = some q' → v.ownBlock = some q' ∨ W9.heap.size ≤ q' := fun q' hq' => by
                        simp only [Value.ownBlock, Option.some.injEq] at hq'
                        subst hq'
                        rcases hat with hat | hat
                        · exact .inl (by rw [hVF]; exact hat)
                        · exact .inr (by rw [hat]; show W9.heap.size ≤ (W9.alloc _).heap.size; simp)
                      have hk11 : Keeps (fun i => v.ownBlock = some i) W9 w11 := Keeps.grown ((Keeps.refl _ W9).drew.alloc (.cells #[.int .i64 id] 3)) hg11 fun g' hg' _ => by rw [hVF]; exact hg'
                      have hrow' : Row w11 3 1 (.slice (some ⟨g9, off, none⟩) (qn + 1) cap9) (S1.sn t ++ [id]).length ((S1.sn t ++ [id]).map idV) := by
                        rw [List.map_append, List.length_append, ← hQN]
                        exact hrow
                      have hF := HA9.out.sinced ht HV.out (S1.sn t ++ [id]) hrow' hk11 hvo
                      have hst : ({ ({ S1 with T := T9 } : RSt) with since := S1.since.set t (S1.sn t ++ [id]) } : RSt) = addR S1 t m id (entOf (k0, k1, k2, k3, k4) lv va 0) := by
                        unfold addR
                        rw [HT9.out, HMM.out]
                        rfl
                      have hF' : IsRe b (addR S1 t m id (entOf (k0, k1, k2, k3, k4) lv va 0)) _ _ := ⟨_, _, _, by rw [← hst]; exact hF⟩
                      refine ⟨id, 0, _, _, rfl, .inr (.inr (.inr (.inr ⟨HNK.out, HQ2.out, S1, HS1.out, .inr ⟨HFL.out, id, m, HID.out, HIA.out, rfl, rfl, rfl⟩⟩))), hF', fun i hi => ?_, ?_⟩
                      · rcases hi with hi | hi
                        · exact HF6.out i hi
                        · rcases hvo i hi with h1 | h1
                          · exact HF6.out i (HA9.out.fv t v i HV.out h1)
                          · exact .inr (Nat.le_trans HK9.out.size h1)
                      · exact (HK9.out.trans hk11 (fun i hi e => (HF6.out i (HA9.out.fv t v i HV.out e)).resolve_right (by omega))).setCell (p := ⟨b, 66 + t, none⟩) (fun _ => HFB.out) _
                · have u1 : decide ((m : Int) < (n : Int)) = false := decide_eq_false (by omega)
                  have u2 : decide (m < n) = false := decide_eq_false hm
                  obtain rfl : m = n := by omega
                  have HIA := Lib.hid (show InsAt S1.T id m from ⟨by rw [← HN1.out]; exact hmn, HIN.out, fun p hp => by
                      have := (List.getElem?_eq_some_iff.1 hp).1
                      rw [← HN1.out] at this
                      omega⟩)
                  clear hA
                  go_upto_region 21 with fail
                  go_quiet (fail)
                  obtain ⟨V, hV⟩ : ∃ V, V = wr.drewN nq := ⟨_, rfl⟩
                  rw [← hV]
                  clear x0 b1 u1 u2
                  have hbV : Below Y.heap.size Y V := by rw [hV]; exact HBL.out _
                  have HAV := Lib.hid (HA6.out.below hbV)
                  have HBV := Lib.hid ((hbV.block _ (lt_of_block HBX.out)).trans HBX.out)
                  have HKV := Lib.hid (HKX.out.below hbV)
                  have b1 := (HAV.out.cell 1).trans (HAV.out.c1.trans (congrArg some HV2.out))
                  obtain ⟨i0, hi, hz0, hz1, hz2⟩ := info_parts infoTh
                  have hrow := HAV.out.list
                  rw [HV2.out, ← HN1.out] at hrow
                  have hbV2 := lt_of_block HAV.out.own
                  have hbn : some b ≠ (Value.slice a1 m c1).ownBlock := fun e => hrow.ne_type HAV.out.own (by decide) e.symm
                  have hwn : some w.heap.size ≠ (Value.slice a1 m c1).ownBlock := fun e => HFNE.out _ (HAV.out.f1 w.heap.size (by rw [HV2.out]; exact e.symm)) rfl
                  have HR7 := Lib.hid (show Row (V.alloc (.cells #[.int .i64 0, .int .i64 0, .int .i64 0, .int .i64 0, .int .i64 0, .int .i64 0, .int .i64 0, .int .i64 0, .int .u64 0] 118)) 118 9 (.slice a1 m c1) m (encTs S1.T) from hrow.keep fun q hq => Below.heap_alloc V _ q (hrow.lt q hq))
                  have M3 := Lib.hid (show m + 1 ≤ maxLen by unfold maxLen; omega)
                  have M4 := Lib.hid (show (m + 1) * 72 ≤ 140737488355328 by omega)
                  have HBN := Lib.hid hbn
                  have HWN := Lib.hid hwn
                  clear hV hbV hrow hbn hwn
                  go_upto_region 23 with fail
                  go_wp2_with ((at_builtin; go_loud (refine wpList_append_row _ rfl (.tmp 137) (.tmp 139) 65 rfl 118 i0 _ 9 72 Try.underlying65 hi hz0 hz1 hz2 rfl (by omega) (.slice a1 m c1) m (encTs S1.T) rfl HR7.out ⟨V.heap.size, 0, none⟩ 1 1 [.int .i64 0, .int .i64 0, .int .i64 0, .int .i64 0, .int .i64 0, .int .i64 0, .int .i64 0, .int .i64 0, .int .u64 0] rfl rfl (news_alloc V _ _ rfl) (by simp [Value.oneCell']) (by omega) M3.out M4.out _ rfl ?_; intro g6 off6 cap w6 hrow6 hg6 hat6; have z1 : w6.cell? ⟨b, 1, none⟩ = some (.slice a1 m c1) := (hg6.cell_far (a := ⟨b, 1, none⟩) (by simp; omega) HBN.out).trans ((World.cell?_of_block (Below.heap_alloc V _ b hbV2)).trans b1); have z2 : w6.frozen? ⟨b, 1, none⟩ = false := (hg6.frozen_far (a := ⟨b, 1, none⟩) (by simp; omega) HBN.out).trans ((World.frozen?_of_block (Below.heap_alloc V _ b hbV2)).trans (Joins.unfrozen_of_block HAV.out.own 1)))))
                  have hF1w : ∀ i, F1 i → F i ∨ w.heap.size ≤ i := fun i hi => (HF1.out i hi).imp (fun h => h) (fun h => by have := HX3.out; omega)
                  have hvF : ∀ i, v1'.ownBlock = some i → F1 i := fun i e => HAV.out.f1 i e
                  have hkg : Keeps (fun i => v1'.ownBlock = some i) V w6 := Keeps.grown ((Keeps.refl (fun i => v1'.ownBlock = some i) V).alloc (.cells #[.int .i64 0, .int .i64 0, .int .i64 0, .int .i64 0, .int .i64 0, .int .i64 0, .int .i64 0, .int .i64 0, .int .u64 0] 118)) hg6 fun g' hg' _ => by rw [HV2.out]; exact hg'
                  have hrY : Row w6 118 9 (.slice (some ⟨g6, off6, none⟩) (m + 1) cap) (S1.T ++ [(0, zeroE)]).length (encTs (S1.T ++ [(0, zeroE)])) := by
                    rw [encTs_append, List.length_append, List.length_singleton, ← HN1.out]
                    exact hrow6
                  have hnlt : m < 200000 := by
                    have h1 := HFL.out
                    have h2 := HROOM.out
                    rw [HS1R.out] at h1
                    have h3 := HN1.out
                    omega
                  have hAY := HAV.out.newlist hkg hrY (by rw [List.length_append, List.length_singleton, ← HN1.out]; omega)
                  have hKW : Keeps F w w6 := (HK5.out.trans HKV.out (fun i hi e => by omega)).trans hkg (fun i hi e => (hF1w i (hvF i e)).resolve_right (by omega))
                  have hwV := lt_of_block HBV.out
                  have hbw6 : w6.heap[w.heap.size]? = some (.cells #[.int .i64 id, .int .i64 k0, .int .i64 lv, .int .i64 va, .int .i64 k1, .int .i64 k2, .int .i64 k3, .int .i64 k4, .int .u64 0] 118 (0, 0)) := by
                    rw [hg6.block _ (by simp; omega) HWN.out]
                    exact (Below.heap_alloc V _ _ hwV).trans HBV.out
                  have hne6 : w.heap.size ≠ g6 := fun e => by
                    rcases hat6 with h1 | h1
                    · exact HWN.out (by rw [e]; exact h1.symm)
                    · rw [h1] at e; simp at e; omega
                  have hF6 : ∀ i, (F1 i ∨ (Value.slice (some ⟨g6, off6, none⟩) (m + 1) cap).ownBlock = some i) → F i ∨ w.heap.size ≤ i := fun i hi => by
                    rcases hi with hi | hi
                    · exact hF1w i hi
                    · obtain rfl : g6 = i := by simpa [Value.ownBlock] using hi
                      rcases hat6 with h1 | h1
                      · exact hF1w g6 (hvF g6 (by rw [HV2.out]; exact h1))
                      · exact .inr (by rw [h1]; simp; omega)
                  obtain ⟨Y1, hY1⟩ : ∃ Y1, Y1 = w6.setCell ⟨b, 1, none⟩ (.slice (some ⟨g6, off6, none⟩) (m + 1) cap) := ⟨_, rfl⟩
                  rw [← hY1] at hAY ⊢
                  have hbxY : Y1.heap[w.heap.size]? = some (.cells #[.int .i64 id, .int .i64 k0, .int .i64 lv, .int .i64 va, .int .i64 k1, .int .i64 k2, .int .i64 k3, .int .i64 k4, .int .u64 0] 118 (0, 0)) := by
                    rw [hY1, Below.heap_setCell _ _ _ _ (show w.heap.size ≠ b from fun e => HFNE.out b HAV.out.fb e.symm)]
                    exact hbw6
                  have hKY : Keeps F w Y1 := by rw [hY1]; exact hKW.setCell (p := ⟨b, 1, none⟩) (fun _ => HFB.out) _
                  have hrowY := hAY.list
                  rw [show ({ S1 with T := S1.T ++ [(0, zeroE)] } : RSt).T = S1.T ++ [(0, zeroE)] from rfl, List.length_append, List.length_singleton, ← HN1.out] at hrowY
                  obtain ⟨a9, c9, hform, hcap, -, -⟩ := hrowY.form
                  simp only [Value.slice.injEq, true_and] at hform
                  obtain ⟨-, rfl⟩ := hform
                  have b1 := (hAY.cell 1).trans hAY.c1
                  have HAY := Lib.hid hAY
                  have HBXY := Lib.hid hbxY
                  have HKY := Lib.hid hKY
                  have HF6 := Lib.hid hF6
                  have HNE6 := Lib.hid hne6
                  have HRY := Lib.hid hrowY
                  have hg6b : g6 ≠ b := fun e => hrowY.ne_type hAY.own (by decide) (by rw [e]; rfl)
                  have HG6B := Lib.hid hg6b
                  have HSN1 := Lib.hid (show (S1.sn t).length ≤ 200000 by rw [HS1S.out]; exact HSF.out)
                  clear hF1w hvF hkg hrY hAY hKW hwV hbw6 hne6 hF6 hY1 hbxY hKY hrowY hrow6 hg6 hat6 hi hz0 hz1 hz2 hg6b
                  obtain ⟨ys, hys⟩ : ∃ ys, ys = S1.T ++ [(0, zeroE)] := ⟨_, rfl⟩
                  obtain ⟨w2, hw2⟩ : ∃ w2, w2 = Y1.drew := ⟨_, rfl⟩
                  have hyl : ys.length = m + 1 := by rw [hys, List.length_append, List.length_singleton, ← HN1.out]
                  have hset : ∀ c : Nat × Ent, ys.set m c = S1.T.take m ++ c :: S1.T.drop m := fun c => by
                    have hl := HN1.out
                    rw [hys, List.set_append_right _ _ (by omega), List.take_of_length_le (by omega), List.drop_eq_nil_of_le (by omega), show m - S1.T.length = 0 by omega]
                    rfl
                  have hcp : ∀ a' c' m' c'', (Builtin.copy_ #[65, 65] 3 #[.slice a' 0 c', .slice (some ⟨g6, off6 + m * 9, none⟩) m' c'']).run Try.prog Y1.drew = .ok (goInt 0) w2 := fun a' c' m' c'' => by rw [hw2]; exact copy_none Y1.drew a' _ c' m' c''
                  have HR2 := Lib.hid (show Row w2 118 9 (.slice (some ⟨g6, off6, none⟩) (m + 1) cap) (m + 1) (encTs ys) by rw [hw2, hys]; exact HRY.out.drew')
                  have HK2 := Lib.hid (show Keeps (fun i => i = g6) Y1.drew w2 by rw [hw2]; exact Keeps.refl _ _)
                  have HSET := Lib.hid hset
                  have HYL := Lib.hid hyl
                  clear hys hset hyl hw2
                  have hw1 : IntKind.i64.wrap ((m : Int) + 1) = (m : Int) + 1 := wrap_small _ (by omega) (by omega)
                  have hw2 : ((m : Int) + 1).toNat = m + 1 := by omega
                  have hw3 : (0 : Int) ≤ (m : Int) + 1 := by omega
                  have hw4 : (m : Int) + 1 ≤ (m : Int) + 1 := by omega
                  have hw6 : ¬ cap = m := by omega
                  have hw7 : (m : Int) ≤ (m : Int) + 1 := by omega
                  have hnl : m - m = 0 := by omega
                  go_upto_region 24 with fail
                  go_cut [] from 143 to 156 (fun wx => wx = w2)
                  case first =>
                    rcases Nat.lt_or_ge (m + 1) cap with hcc | hcc
                    · have hw5 : ¬ cap = m + 1 := by omega
                      go_region_law (fail)
                      all_goals
                        go_wp2_with fail
                        go_meet
                        rfl
                    · obtain rfl : cap = m + 1 := by omega
                      go_region_law (fail)
                      all_goals
                        go_wp2_with fail
                        go_meet
                        rfl
                  case rest =>
                  obtain rfl : wc = w2 := hcut
                  clear hcp hw1 hw2 hw3 hw4 hw6 hw7 hnl b1
                  have hbx2 : wc.heap[w.heap.size]? = some (.cells #[.int .i64 id, .int .i64 k0, .int .i64 lv, .int .i64 va, .int .i64 k1, .int .i64 k2, .int .i64 k3, .int .i64 k4, .int .u64 0] 118 (0, 0)) := (HK2.out.block _ (lt_of_block HBXY.out) HNE6.out).trans HBXY.out
                  have hA2 := HAY.out.relist ((((Keeps.refl (fun i => i = g6) Y1).drew).trans HK2.out (fun _ _ h => h)).mono (G := fun i => (Value.slice (some ⟨g6, off6, none⟩) (m + 1) cap).ownBlock = some i) (fun i _ e => by subst e; rfl)) (T' := ys) (by rw [HYL.out]; exact HR2.out) (by rw [HYL.out]; omega)
                  have x0 := Joins.cell_of_block hbx2 0
                  have x1 := Joins.cell_of_block hbx2 1
                  have x2 := Joins.cell_of_block hbx2 2
                  have x3 := Joins.cell_of_block hbx2 3
                  have x4 := Joins.cell_of_block hbx2 4
                  have x5 := Joins.cell_of_block hbx2 5
                  have x6 := Joins.cell_of_block hbx2 6
                  have x7 := Joins.cell_of_block hbx2 7
                  have x8 := Joins.cell_of_block hbx2 8
                  simp at x0 x1 x2 x3 x4 x5 x6 x7 x8
                  have y1 := (hA2.cell 1).trans hA2.c1
                  have hkl : m < ys.length := by rw [HYL.out]; omega
                  obtain ⟨z0, hz0⟩ : ∃ z, ys[m]? = some z := ⟨ys[m], List.getElem?_eq_getElem hkl⟩
                  obtain ⟨q9, o9, c9, hv9, -, -, hql9, hcl9, hfz9⟩ := hA2.all (by show 0 < ys.length; omega)
                  simp only [Value.slice.injEq, Option.some.injEq, Addr.mk.injEq, and_true] at hv9
                  obtain ⟨⟨rfl, rfl⟩, -, rfl⟩ := hv9
                  have f0 := hcl9 m z0 hz0 0 (by omega)
                  have f1 := hcl9 m z0 hz0 1 (by omega)
                  have f2 := hcl9 m z0 hz0 2 (by omega)
                  have f3 := hcl9 m z0 hz0 3 (by omega)
                  have f4 := hcl9 m z0 hz0 4 (by omega)
                  have f5 := hcl9 m z0 hz0 5 (by omega)
                  have f6 := hcl9 m z0 hz0 6 (by omega)
                  have f7 := hcl9 m z0 hz0 7 (by omega)
                  have f8 := hcl9 m z0 hz0 8 (by omega)
                  simp only [encTh, List.getElem?_cons_zero, List.getElem?_cons_succ, Nat.add_zero] at f0 f1 f2 f3 f4 f5 f6 f7 f8
                  have hrt := rowT_thing (i := m) (T := ys) (u := z0) (by rw [HYL.out]; exact HR2.out) hz0 id k0 lv va k1 k2 k3 k4 0
                  have hy9 : ys.set m (id, (⟨k0, k1, k2, k3, k4, lv, va, 0⟩ : Ent)) = S1.T.take m ++ (id, ⟨k0, k1, k2, k3, k4, lv, va, 0⟩) :: S1.T.drop m := HSET.out _
                  have hK8 : Keeps (fun i => i = g6) wc (store9 wc g6 (off6 + m * 9) id k0 lv va k1 k2 k3 k4 0) := keeps_store9 (G := fun i => i = g6) rfl _ _ _ _ _ _ _ _ _
                  have HA8 := Lib.hid (hA2.relist (hK8.mono (G := fun i => (Value.slice (some ⟨g6, off6, none⟩) (m + 1) cap).ownBlock = some i) (fun i _ e => by subst e; rfl)) (T' := ys.set m (id, (⟨k0, k1, k2, k3, k4, lv, va, 0⟩ : Ent))) (by rw [List.length_set]; rw [HYL.out] at hrt ⊢; exact hrt) (by rw [List.length_set, HYL.out]; omega))
                  have HY9 := Lib.hid hy9
                  have HK8 := Lib.hid hK8
                  have HHA2 := Lib.hid hA2
                  clear hz0 hcl9 hrt hK8 hA2 hbx2 hy9
                  go_upto_region 25 with fail
                  go_region
                  clear x0 x1 x2 x3 x4 x5 x6 x7 x8 y1 f0 f1 f2 f3 f4 f5 f6 f7 f8 hfz9
                  obtain ⟨e0, he0⟩ : ∃ e0 : Nat × Ent, e0 = (id, ⟨k0, k1, k2, k3, k4, lv, va, 0⟩) := ⟨_, rfl⟩
                  obtain ⟨W8, hW8⟩ : ∃ W, W = (store9 wc g6 (off6 + m * 9) id k0 lv va k1 k2 k3 k4 0).drew := ⟨_, rfl⟩
                  have hW8' := hW8
                  unfold store9 at hW8'
                  rw [show ((0 : Nat) : Int) = 0 from rfl] at hW8'
                  rw [← hW8']
                  clear hW8'
                  have hA8 := HA8.out.keep (w' := W8) (G := fun _ => False) (by rw [hW8]; exact (Keeps.refl _ _).drew) (fun _ _ h => h)
                  rw [← he0] at hA8
                  have hK28 : Keeps (fun i => i = g6) wc W8 := by rw [hW8]; exact HK8.out.drew
                  have hTm : (ys.set m e0)[m]? = some e0 := List.getElem?_set_self hkl
                  obtain ⟨q9, o9, c9, hv9, -, -, hql8, hcl9, hfz9⟩ := hA8.all (by show 0 < (ys.set m e0).length; rw [List.length_set]; omega)
                  simp only [Value.slice.injEq, Option.some.injEq, Addr.mk.injEq, and_true] at hv9
                  obtain ⟨⟨rfl, rfl⟩, -, rfl⟩ := hv9
                  have m0 := hcl9 m e0 hTm 0 (by omega)
                  have m8 := hcl9 m e0 hTm 8 (by omega)
                  rw [he0] at m0 m8
                  simp only [encTh, List.getElem?_cons_zero, List.getElem?_cons_succ, Nat.add_zero] at m0 m8
                  have ff := hfz9 (off6 + m * 9 + 8)
                  have b1 := (hA8.cell 1).trans hA8.c1
                  have hor := or_bit (ma := 0) (by omega) ht
                  rw [show ((0 : Nat) : Int) = 0 from rfl] at hor m8
                  obtain ⟨mm, hmm⟩ : ∃ mm, mm = 0 ||| 2 ^ t := ⟨_, rfl⟩
                  rw [← hmm] at hor
                  have hlist : Row W8 118 9 (.slice (some ⟨g6, off6, none⟩) (m + 1) cap) (ys.set m e0).length (encTs (ys.set m e0)) := hA8.list
                  rw [List.length_set, HYL.out] at hlist
                  have hR9 := rowT_cell (k := 8) (i := m) (T := ys.set m e0) (u := e0) (o' := (id, (⟨k0, k1, k2, k3, k4, lv, va, mm⟩ : Ent))) (v := .int .u64 (mm : Int)) (by rw [List.length_set, HYL.out]; exact hlist) hTm (by omega) (by rw [he0]; rfl)
                  obtain ⟨W9, hW9⟩ : ∃ W, W = W8.setCell ⟨g6, off6 + m * 9 + 8, none⟩ (.int .u64 (mm : Int)) := ⟨_, rfl⟩
                  have hK9 : Keeps (fun j => (Value.slice (some ⟨g6, off6, none⟩) (m + 1) cap).ownBlock = some j) W8 W9 := by rw [hW9]; exact (Keeps.refl (fun j => (Value.slice (some ⟨g6, off6, none⟩) (m + 1) cap).ownBlock = some j) W8).setCell (p := ⟨g6, off6 + m * 9 + 8, none⟩) (fun _ => rfl) _
                  rw [← hW9] at hR9
                  have hW9s := hW9.symm
                  obtain ⟨T9, hT9⟩ : ∃ T9, T9 = (ys.set m e0).set m (id, (⟨k0, k1, k2, k3, k4, lv, va, mm⟩ : Ent)) := ⟨_, rfl⟩
                  rw [← hT9] at hR9
                  have hl9 : T9.length = m + 1 := by rw [hT9, List.length_set, List.length_set]; exact HYL.out
                  have hA9 : ReAt b { S1 with T := T9 } _ (.slice (some ⟨g6, off6, none⟩) (m + 1) cap) vs1 W9 _ := hA8.relist hK9 (by rw [hl9] at hR9 ⊢; exact hR9) (by omega)
                  have m0' : W9.cell? ⟨g6, off6 + m * 9, none⟩ = some (.int .i64 id) := by rw [hW9]; exact (World.cell?_setCell_other _ _ _ _ (by intro h; simp only [Addr.mk.injEq] at h; omega)).trans m0
                  have HA9 := Lib.hid hA9
                  have HT9 := Lib.hid (show T9 = S1.T.take m ++ (id, (⟨k0, k1, k2, k3, k4, lv, va, mm⟩ : Ent)) :: S1.T.drop m by rw [hT9, List.set_set]; exact HSET.out _)
                  have HMM := Lib.hid hmm
                  have hg6F : g6 < w.heap.size → F g6 := fun hi => (HF6.out g6 (.inr rfl)).resolve_right (by omega)
                  have HK9 := Lib.hid (((HKY.out.drew.trans HK2.out (fun i hi e => by subst e; exact hg6F hi)).trans hK28 (fun i hi e => by subst e; exact hg6F hi)).trans hK9 (fun i hi e => by
                    obtain rfl : g6 = i := by simpa [Value.ownBlock] using e
                    exact hg6F hi))
                  have hg9 : g6 < W9.heap.size := Nat.lt_of_lt_of_le hql8 hK9.size
                  clear hcl9 hfz9 hlist hR9 hmm hW9 hT9 hK9 hA9 hA8 m0 hl9 hW8 hTm he0 hK28 hg6F
                  go_upto_region 28 with fail
                  have hb9 := HA9.out.own
                  have hlen := HA9.out.len
                  obtain ⟨v, hv⟩ : ∃ v, vs1[t]? = some v := ⟨_, List.getElem?_eq_getElem (by rw [hlen]; exact ht)⟩
                  have hvr := HA9.out.rows t v hv
                  rw [show ({ S1 with T := T9 } : RSt).sn t = S1.sn t from rfl] at hvr
                  obtain ⟨va', vc', hvf, _, _, _⟩ := hvr.form
                  have w66 := (HA9.out.cell (66 + t)).trans ((HA9.out.c3 t ht).trans hv)
                  obtain ⟨qn, hqn⟩ : ∃ qn, qn = (S1.sn t).length := ⟨_, rfl⟩
                  rw [hvf, ← hqn] at w66
                  rw [hvf, ← hqn] at hvr
                  have hsf := HSN1.out
                  rw [← hqn] at hsf
                  have hvb : some b ≠ (Value.slice va' qn vc').ownBlock := fun e => hvr.ne_type hb9 (by decide) e.symm
                  have hbl := lt_of_block hb9
                  have hr11 : Row (W9.drew.alloc (.cells #[.int .i64 id] 3)) 3 1 (.slice va' qn vc') qn ((S1.sn t).map idV) := hvr.keep fun g hg => Below.heap_alloc W9.drew _ g (hvr.lt g hg)
                  obtain ⟨i1, hi1, hz10, hz11, hz12⟩ := info_parts infoNum
                  have hvq : some g6 ≠ (Value.slice va' qn vc').ownBlock := fun e => by
                    obtain ⟨cur, hc⟩ := HA9.out.list.typed g6 rfl
                    exact hvr.ne_type hc (by decide) e.symm
                  have HQNE := Lib.hid hvq
                  have H11 := Lib.hid hr11
                  have HBN9 := Lib.hid hvb
                  have HB9 := Lib.hid hb9
                  have HVF := Lib.hid hvf
                  have HQN := Lib.hid hqn
                  have HV := Lib.hid hv
                  have fz9 : W9.frozen? ⟨b, 66 + t, none⟩ = false := Joins.unfrozen_of_block hb9 _
                  clear hb9 hlen hv hvr hvf hqn hvb hr11 hvq hor m8 ff hW9s b1
                  go_region_law ((refine step_append_row _ rfl (.tmp 187) (.tmp 192) 57 rfl 3 i1 _ 1 8 Try.underlying57 hi1 hz10 hz11 hz12 rfl (by omega) (.slice va' qn vc') qn ((S1.sn t).map idV) rfl H11.out ⟨W9.heap.size, 0, none⟩ 1 1 [.int .i64 id] rfl rfl (news_alloc W9.drew _ _ rfl) (by simp [Value.oneCell']) (by omega) (by unfold maxLen; omega) (by omega) _ rfl ?_; intro g9 off cap9 w11 hrow hg11 hat; have z1 : w11.cell? ⟨b, 66 + t, none⟩ = some (.slice va' qn vc') := (hg11.cell_far (a := ⟨b, 66 + t, none⟩) (by simp; omega) HBN9.out).trans ((World.cell?_of_block (Below.heap_alloc W9.drew _ b hbl)).trans w66); have z2 : w11.frozen? ⟨b, 66 + t, none⟩ = false := (hg11.frozen_far (a := ⟨b, 66 + t, none⟩) (by simp; omega) HBN9.out).trans ((World.frozen?_of_block (Below.heap_alloc W9.drew _ b hbl)).trans (Joins.unfrozen_of_block HB9.out (66 + t))); have z3 : w11.cell? ⟨g6, off6 + m * 9, none⟩ = some (.int .i64 id) := (hg11.cell_far (a := ⟨g6, off6 + m * 9, none⟩) (by simp; omega) HQNE.out).trans ((World.cell?_of_block (Below.heap_alloc W9.drew _ g6 hg9)).trans m0')))
                  all_goals
                    have hgb := HG6B.out
                    go_wp2_with fail
                    go_ret2
                    have hVF := HVF.out
                    have hQN := HQN.out
                    rw [← hQN] at hVF
                    have hvo : ∀ q', (Value.slice (some ⟨g9, off, none⟩) (qn + 1) cap9).ownBlock = some q' → v.ownBlock = some q' ∨ W9.heap.size ≤ q' := fun q' hq' => by
                      simp only [Value.ownBlock, Option.some.injEq] at hq'
                      subst hq'
                      rcases hat with hat | hat
                      · exact .inl (by rw [hVF]; exact hat)
                      · exact .inr (by rw [hat]; show W9.heap.size ≤ (W9.alloc _).heap.size; simp)
                    have hk11 : Keeps (fun i => v.ownBlock = some i) W9 w11 := Keeps.grown ((Keeps.refl _ W9).drew.alloc (.cells #[.int .i64 id] 3)) hg11 fun g' hg' _ => by rw [hVF]; exact hg'
                    have hrow' : Row w11 3 1 (.slice (some ⟨g9, off, none⟩) (qn + 1) cap9) (S1.sn t ++ [id]).length ((S1.sn t ++ [id]).map idV) := by
                      rw [List.map_append, List.length_append, ← hQN]
                      exact hrow
                    have hF := HA9.out.sinced ht HV.out (S1.sn t ++ [id]) hrow' hk11 hvo
                    have hst : ({ ({ S1 with T := T9 } : RSt) with since := S1.since.set t (S1.sn t ++ [id]) } : RSt) = addR S1 t m id (entOf (k0, k1, k2, k3, k4) lv va 0) := by
                      unfold addR
                      rw [HT9.out, HMM.out]
                      rfl
                    have hF' : IsRe b (addR S1 t m id (entOf (k0, k1, k2, k3, k4) lv va 0)) _ _ := ⟨_, _, _, by rw [← hst]; exact hF⟩
                    refine ⟨id, 0, _, _, rfl, .inr (.inr (.inr (.inr ⟨HNK.out, HQ2.out, S1, HS1.out, .inr ⟨HFL.out, id, m, HID.out, HIA.out, rfl, rfl, rfl⟩⟩))), hF', fun i hi => ?_, ?_⟩
                    · rcases hi with hi | hi
                      · exact HF6.out i hi
                      · rcases hvo i hi with h1 | h1
                        · exact HF6.out i (HA9.out.fv t v i HV.out h1)
                        · exact .inr (Nat.le_trans HK9.out.size h1)
                    · exact (HK9.out.trans hk11 (fun i hi e => (HF6.out i (HA9.out.fv t v i HV.out e)).resolve_right (by omega))).setCell (p := ⟨b, 66 + t, none⟩) (fun _ => HFB.out) _
end Go.Proofs.Ytdmamecfmfhlmaa
