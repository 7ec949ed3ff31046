/-
  ref.Store's give, where the thing is there.
-/
import Derived.Test.YtdmamecfmfhlmaaZArenaPlaysReRow
namespace Go.Proofs.Ytdmamecfmfhlmaa
set_option maxRecDepth 100000
open Go.RowKit

/-- Where the list lies, and its cells. -/
theorem ReAt.all {b : Nat} {S : RSt} {arr : Array Value} {v1 : Value} {vs : List Value} {w : World} {F : Nat → Prop} (h : ReAt b S arr v1 vs w F) (hn : 0 < S.T.length) : ∃ q o c, v1 = .slice (some ⟨q, o, none⟩) S.T.length c ∧ F q ∧ q ≠ b ∧ q < w.heap.size ∧ (∀ i p, S.T[i]? = some p → ∀ j, j < 9 → w.cell? ⟨q, o + i * 9 + j, none⟩ = (encTh p)[j]?) ∧ ∀ j, w.frozen? ⟨q, j, none⟩ = false := by
  obtain ⟨a, c, hv, hc, hm, ha⟩ := h.list.form
  have hl := h.list
  have hF := h.f1
  have hne := h.list.ne_type h.own (by decide)
  rw [hv] at hl hF hne
  obtain ⟨q, o, rfl, hcell, hf, hlt⟩ := hl.cells hn
  refine ⟨q, o, c, hv, hF q rfl, fun e => hne (by rw [e]; rfl), hlt, fun i p hi j hj => ?_, hf⟩
  have hlt := (List.getElem?_eq_some_iff.1 hi).1
  rw [Nat.add_assoc, hcell (i * 9 + j) (by omega), encTs_at hi j hj]
def GivenR (b : Nat) (S : RSt) (F : Nat → Prop) (t : Nat) (k : AKey) (lv va : Int) (w : World) (e : Ending) (w' : World) : Prop :=
  ∃ (r er : Int) (S' : RSt) (F' : Nat → Prop), e = .returned (.tuple #[.int .i64 r, .int .i64 er]) ∧ GaveR S t k lv va r er S' ∧ IsRe b S' w' F' ∧ (∀ i, F' i → F i ∨ w.heap.size ≤ i) ∧ Keeps F w w'
def wantV (k : AKey) (lv va : Int) : Value := .agg #[.int .i64 0, .int .i64 k.1, .int .i64 lv, .int .i64 va, .int .i64 k.2.1, .int .i64 k.2.2.1, .int .i64 k.2.2.2.1, .int .i64 k.2.2.2.2, .int .u64 0]
set_option maxHeartbeats 8000000 in
set_option maxRecDepth 100000 in
theorem giveR_has (b : Nat) (S : RSt) (arr : Array Value) (v1 : Value) (vs : List Value) (F : Nat → Prop) (t : Nat) (k : AKey) (lv va : Int) (w : World) (h : ReAt b S arr v1 vs w F) (ht : t < 64) (hgd : ∀ p ∈ S.T, GoodE p.2) (hg : GoodA k)
    (hun : ∀ (i j : Nat) (p q : Nat × Ent), S.T[i]? = some p → S.T[j]? = some q → p.2.key = q.2.key → i = j) (i0 : Nat) (p0 : Nat × Ent) (hp0 : S.T[i0]? = some p0) (hk0 : p0.2.key = k) (hma : p0.2.ma < 18446744073709551616) (hsf : (S.sn t).length ≤ 200000) :
    Calls Try.prog 90 #[.pointer (some ⟨b, 0, none⟩), .int .i64 t, wantV k lv va] w (GivenR b S F t k lv va w) := by
  obtain ⟨k0, k1, k2, k3, k4⟩ := k
  have hi0 := (List.getElem?_eq_some_iff.1 hp0).1
  have hfew := h.few
  obtain ⟨X, hX⟩ : ∃ X, X = w.alloc (.cells #[.int .i64 0, .int .i64 k0, .int .i64 lv, .int .i64 va, .int .i64 k1, .int .i64 k2, .int .i64 k3, .int .i64 k4, .int .u64 0] 118) := ⟨_, rfl⟩
  have hbX : Below w.heap.size w X := by rw [hX]; exact (Below.refl _ _).alloc (Nat.le_refl _) _
  have hx0 : X.heap[w.heap.size]? = some (.cells #[.int .i64 0, .int .i64 k0, .int .i64 lv, .int .i64 va, .int .i64 k1, .int .i64 k2, .int .i64 k3, .int .i64 k4, .int .u64 0] 118 (0, 0)) := by rw [hX]; exact blk_last w _ rfl
  have hzX : w.heap.size < X.heap.size := by rw [hX]; simp
  have hA := h.below hbX
  obtain ⟨q, o, c, hv1, hFq, hqb, hql, hcl, hfz⟩ := hA.all (by omega)
  obtain ⟨N, hN⟩ : ∃ N, N = S.T.length := ⟨_, rfl⟩
  rw [← hN] at hv1 hfew hi0
  have HA := Lib.hid hA
  have HX := Lib.hid hX
  have HBX := Lib.hid hbX
  have HX0 := Lib.hid hx0
  have HV1 := Lib.hid hv1
  have HCL := Lib.hid hcl
  have HFZ := Lib.hid hfz
  have HN := Lib.hid hN
  have HP0 := Lib.hid hp0
  have HK0 := Lib.hid hk0
  have HUN := Lib.hid hun
  have HGD := Lib.hid hgd
  have HG := Lib.hid hg
  have HFq := Lib.hid hFq
  have HMA := Lib.hid hma
  have HB1 : Aside (∀ ws, Below X.heap.size X ws → ws.cell? ⟨b, 1, none⟩ = some (.slice (some ⟨q, o, none⟩) N c)) := fun ws hb => (hb.cell (p := ⟨b, 1, none⟩) (lt_of_block hA.own)).trans ((hA.cell 1).trans (hA.c1.trans (congrArg some hv1)))
  have hFlt := h.lt
  have HFLT := Lib.hid hFlt
  have ht0 : (0 : Int) ≤ t := by omega
  have htI : (t : Int) < 64 := by omega
  unfold wantV
  clear h hA hX hbX hx0 hv1 hcl hfz hN hp0 hk0 hun hgd hg hFq hma hFlt
  go_enter Try.func90, Try.ntmps90
  go_upto_region 1 with fail
  rw [← HX.out]
  have b1 := HB1.out X (Below.refl _ _)
  go_wp2_with fail
  clear b1
  go_loopw [8, 9, 16] (fun hv _ iv ws => ∃ (k : Nat) (hpt : Option Addr), iv = .int .i64 k ∧ hv = .pointer hpt ∧ k ≤ N ∧ Aside (hpt = if i0 < k then some ⟨q, o + i0 * 9, none⟩ else none) ∧ Below X.heap.size X ws) (fun _ _ iv _ => N - (intOf iv).toNat)
  case atStart => exact ⟨0, none, rfl, rfl, Nat.zero_le _, (show none = if i0 < 0 then some ⟨q, o + i0 * 9, none⟩ else none from rfl), Below.refl _ _⟩
  case round =>
    obtain ⟨k, hpt, rfl, rfl, hkN, HHP, hbl⟩ := hrel
    have b1 := HB1.out wr hbl
    have hbw := HX0.out
    rw [← hbl.block _ hzX] at hbw
    by_cases hk : k < N
    · obtain ⟨p, hp⟩ : ∃ p, S.T[k]? = some p := ⟨_, List.getElem?_eq_getElem (by rw [← HN.out]; exact hk)⟩
      have hcl : ∀ j, j < 9 → wr.cell? ⟨q, o + k * 9 + j, none⟩ = (encTh p)[j]? := fun j hj => (hbl.cell (p := ⟨q, o + k * 9 + j, none⟩) hql).trans (HCL.out k p hp j hj)
      have c1 := hcl 1 (by omega)
      have c4 := hcl 4 (by omega)
      have c5 := hcl 5 (by omega)
      have c6 := hcl 6 (by omega)
      have c7 := hcl 7 (by omega)
      simp only [encTh, List.getElem?_cons_zero, List.getElem?_cons_succ] at c1 c4 c5 c6 c7
      have e1 := Joins.cell_of_block hbw 1
      have e4 := Joins.cell_of_block hbw 4
      have e5 := Joins.cell_of_block hbw 5
      have e6 := Joins.cell_of_block hbw 6
      have e7 := Joins.cell_of_block hbw 7
      simp at e1 e4 e5 e6 e7
      have u1 : decide ((k : Int) < (N : Int)) = true := decide_eq_true (by omega)
      have u2 : decide (k < N) = true := decide_eq_true hk
      have hgp := (HGD.out _ (List.mem_of_getElem? hp)).1
      have heq := fun W => eq4 p.2.a p.2.b p.2.c p.2.d k1 k2 k3 k4 ⟨hgp.2.1, hgp.2.2.1, hgp.2.2.2.1, hgp.2.2.2.2⟩ HG.out.2 W
      have hbl2 : ∀ n, Below X.heap.size X (wr.drewN n) := fun n => hbl.trans (Joins.below_draws _ _ _)
      have HBL := Lib.hid hbl2
      have hnext : k ≠ i0 → (if i0 < k then some (⟨q, o + i0 * 9, none⟩ : Addr) else none) = if i0 < k + 1 then some ⟨q, o + i0 * 9, none⟩ else none := fun hne => by
        by_cases h1 : i0 < k
        · rw [if_pos h1, if_pos (by omega)]
        · rw [if_neg h1, if_neg (by omega)]
      have HNX := Lib.hid hnext
      by_cases hki : k = i0
      · subst hki
        have hpp : p = p0 := Option.some.inj (hp.symm.trans HP0.out)
        subst hpp
        have hk0 := HK0.out
        unfold Ent.key at hk0
        simp only [Prod.mk.injEq] at hk0
        obtain ⟨g0, g1, g2, g3, g4⟩ := hk0
        rw [g0] at c1
        rw [g1] at c4 heq
        rw [g2] at c5 heq
        rw [g3] at c6 heq
        rw [g4] at c7 heq
        rw [decide_eq_true ⟨rfl, rfl, rfl, rfl⟩] at heq
        clear hp hcl hgp hbl hbl2 hnext g0 g1 g2 g3 g4 hbw
        go_upto_region 5 with fail
        go_quiet (fail)
        clear heq e1 e4 e5 e6 e7 c1 c4 c5 c6 c7
        have b1' := HB1.out _ (HBL.out nq)
        go_wp2_with fail
        exact ⟨⟨k + 1, some ⟨q, o + k * 9, none⟩, by go_num, rfl, hk, (show some (⟨q, o + k * 9, none⟩ : Addr) = if k < k + 1 then some ⟨q, o + k * 9, none⟩ else none by rw [if_pos (by omega)]), HBL.out _⟩, by simp [intOf]; omega⟩
      · have hne : p.2.key ≠ (k0, k1, k2, k3, k4) := fun e => hki (HUN.out _ _ _ _ hp HP0.out (e.trans HK0.out.symm))
        unfold Ent.key at hne
        obtain ⟨pi, xk, xa, xb, xc, xd, xl, xv, xm⟩ := p
        simp only at c1 c4 c5 c6 c7 heq hne
        by_cases hkk : xk = k0
        · subst hkk
          rw [decide_eq_false (fun e => hne (by rw [e.1, e.2.1, e.2.2.1, e.2.2.2]))] at heq
          have HN2 := Lib.hid (HNX.out hki)
          clear hp hcl hgp hbl hbl2 hnext hne hbw hki
          go_upto_region 5 with fail
          go_quiet (fail)
          go_wp2_with fail
          exact ⟨⟨k + 1, hpt, by go_num, rfl, hk, HHP.out.trans HN2.out, HBL.out _⟩, by simp [intOf]; omega⟩
        · have g1 : (xk == k0) = false := by simpa using hkk
          have HN2 := Lib.hid (HNX.out hki)
          clear hp hcl hgp hbl hbl2 hnext hne hbw hki heq hkk
          go_upto_region 5 with fail
          go_quiet (fail)
          go_wp2_with fail
          exact ⟨⟨k + 1, hpt, by go_num, rfl, hk, HHP.out.trans HN2.out, HBL.out _⟩, by simp [intOf]; omega⟩
    · have hkN' : k = N := by omega
      subst hkN'
      have u1 : decide ((k : Int) < (k : Int)) = false := decide_eq_false (by omega)
      have u2 : decide (k < k) = false := decide_eq_false (by omega)
      obtain rfl : hpt = some ⟨q, o + i0 * 9, none⟩ := HHP.out.trans (if_pos hi0)
      have hcl : ∀ j, j < 9 → wr.cell? ⟨q, o + i0 * 9 + j, none⟩ = (encTh p0)[j]? := fun j hj => (hbl.cell (p := ⟨q, o + i0 * 9 + j, none⟩) hql).trans (HCL.out i0 p0 HP0.out j hj)
      have c0 := hcl 0 (by omega)
      have c8 := hcl 8 (by omega)
      simp only [encTh, List.getElem?_cons_zero, List.getElem?_cons_succ, Nat.add_zero] at c0 c8
      have hrb := fun b hb => rem_one (m := p0.2.ma) (t := t) b hb
      obtain ⟨pi, xk, xa, xb, xc, xd, xl, xv, xm⟩ := p0
      simp only at c0 c8 hrb
      have hA := HA.out.below hbl
      have HA1 := Lib.hid hA
      have HB2 := Lib.hid (HBX.out.trans (hbl.mono HBX.out.size))
      clear hcl hbw
      cases hbit : xm.testBit t with
      | true =>
        have hr := hrb true hbit
        have HGV := Lib.hid (show GaveR S t (k0, k1, k2, k3, k4) lv va pi 0 S from .inl ⟨i0, _, HP0.out, HK0.out, hbit, rfl, rfl, rfl⟩)
        clear hrb hbit hA hbl b1
        go_wp2_with fail
        go_ret2
        exact ⟨pi, 0, S, F, rfl, HGV.out, ⟨_, _, _, HA1.out⟩, fun i hi => .inl hi, Keeps.of_below HB2.out⟩
      | false =>
        have hr := hrb false hbit
        have HBIT := Lib.hid hbit
        obtain ⟨cn, hcn⟩ : ∃ cn, cn = countR S.T t := ⟨_, rfl⟩
        obtain ⟨qt, hqt⟩ : ∃ qt, qt = S.quo t := ⟨_, rfl⟩
        have hct : ∀ x : Grow wr, Calls Try.prog 76 #[.pointer (some ⟨b, 0, none⟩), .int .i64 t] x.val fun e w' => e = .returned (.int .i64 (cn : Nat)) ∧ Below x.val.heap.size x.val w' := fun x => by
          have h1 := countR_any b S arr _ vs F t x.val (HA1.out.below x.below)
          rw [tenB_in ht, if_pos rfl, Int.toNat_natCast, ← hcn] at h1
          exact h1
        have HCT := Lib.hid hct
        have gq : ∀ x : Grow wr, x.val.cell? ⟨b, 2 + t, none⟩ = some (.int .i64 qt) := Grow.cells (((HA1.out.cell (2 + t)).trans (HA1.out.c2 t ht)).trans (by rw [hqt]; rfl))
        have HCN := Lib.hid hcn
        have HQT := Lib.hid hqt
        clear hrb hbit hA hcn hqt hct hbl b1 c0
        go_upto_region 10 with fail
        refine wp_region_grow (by kernel_rfl) (by kernel_rfl) ?_
        repeat (go_big_quiet_step ((go_at_call 76; with_reducible exact grow_of (HCT.out _))))
        refine wpQuiet_nil ?_
        intro _ hw'
        obtain ⟨z, hz⟩ := hw'
        subst hz
        obtain ⟨Z, hZ⟩ : ∃ Z, Z = z.val := ⟨_, rfl⟩
        have hzb : Below wr.heap.size wr Z := by rw [hZ]; exact z.below
        rw [← hZ]
        clear gq c8
        have hA2 := HA1.out.below hzb
        have HA2 := Lib.hid hA2
        have HB3 := Lib.hid (HB2.out.trans (hzb.mono HB2.out.size))
        clear hA2 hZ hzb
        by_cases hquo : qt ≤ (cn : Int)
        · have t1 : decide ((cn : Int) ≥ qt) = true := decide_eq_true hquo
          have t2 : decide (qt ≤ (cn : Int)) = true := decide_eq_true hquo
          have HGV := Lib.hid (show GaveR S t (k0, k1, k2, k3, k4) lv va 0 9 S from .inr (.inl ⟨i0, _, HP0.out, HK0.out, HBIT.out, by rw [← HQT.out, ← HCN.out]; exact hquo, rfl, rfl, rfl⟩))
          go_wp2_with fail
          go_ret2
          exact ⟨0, 9, S, F, rfl, HGV.out, ⟨_, _, _, HA2.out⟩, fun i hi => .inl hi, Keeps.of_below HB3.out⟩
        · have t1 : decide ((cn : Int) ≥ qt) = false := decide_eq_false hquo
          have t2 : decide (qt ≤ (cn : Int)) = false := decide_eq_false hquo
          have hlt : (cn : Int) < qt := by omega
          have hA := HA2.out
          obtain ⟨q', o', c', hv1', hFq', _, hql', hcl', hfz'⟩ := hA.all (by rw [← HN.out]; omega)
          rw [HV1.out] at hv1'
          simp only [Value.slice.injEq, Option.some.injEq, Addr.mk.injEq, and_true] at hv1'
          obtain ⟨⟨rfl, rfl⟩, -, rfl⟩ := hv1'
          have m0 := hcl' i0 _ HP0.out 0 (by omega)
          have m8 := hcl' i0 _ HP0.out 8 (by omega)
          simp only [encTh, List.getElem?_cons_zero, List.getElem?_cons_succ, Nat.add_zero] at m0 m8
          have ff := hfz' (o + i0 * 9 + 8)
          have hma := HMA.out
          have hor := or_bit hma ht
          have hlist := hA.list
          rw [HV1.out, HN.out] at hlist
          have hR9 := rowT_cell (k := 8) (o' := (pi, ({ k := xk, a := xa, b := xb, c := xc, d := xd, lv := xl, va := xv, ma := xm ||| 2 ^ t } : Ent))) (v := .int .u64 ((xm ||| 2 ^ t : Nat) : Int)) hlist HP0.out (by omega) rfl
          obtain ⟨mm, hmm⟩ : ∃ m, m = xm ||| 2 ^ t := ⟨_, rfl⟩
          rw [← hmm] at hor hR9
          obtain ⟨W9, hW9⟩ : ∃ W, W = Z.setCell ⟨q, o + i0 * 9 + 8, none⟩ (.int .u64 (mm : Int)) := ⟨_, rfl⟩
          have hK9 : Keeps (fun j => v1.ownBlock = some j) Z W9 := by rw [hW9]; exact (Keeps.refl _ Z).setCell (p := ⟨q, o + i0 * 9 + 8, none⟩) (fun _ => by rw [HV1.out]; rfl) _
          rw [← hW9] at hR9
          have hW9s := hW9.symm
          obtain ⟨T9, hT9⟩ : ∃ T9, T9 = S.T.set i0 (pi, ({ k := xk, a := xa, b := xb, c := xc, d := xd, lv := xl, va := xv, ma := mm } : Ent)) := ⟨_, rfl⟩
          rw [← hT9] at hR9
          have hl9 : T9.length = k := by rw [hT9, List.length_set]; exact HN.out.symm
          have hA9 : ReAt b { S with T := T9 } arr v1 vs W9 F := hA.relist hK9 (by rw [HV1.out]; rw [hl9] at hR9 ⊢; exact hR9) (by omega)
          have m0' : W9.cell? ⟨q, o + i0 * 9, none⟩ = some (.int .i64 pi) := by rw [hW9]; exact (World.cell?_setCell_other _ _ _ _ (by intro h; simp only [Addr.mk.injEq] at h; omega)).trans m0
          have HA9 := Lib.hid hA9
          have HK9 := Lib.hid (Keeps.trans (Keeps.of_below (F := F) HB3.out) hK9 (fun i _ e => hA.f1 i e))
          have HT9 := Lib.hid hT9
          have HMM := Lib.hid hmm
          have hzs := HB3.out.size
          clear hcl' hlist hR9 hmm hW9 hT9 hK9 hA9 hA m0 hl9
          go_upto_region 28 with fail
          have hb9 := HA9.out.own
          have hlen := HA9.out.len
          obtain ⟨v, hv⟩ : ∃ v, vs[t]? = some v := ⟨_, List.getElem?_eq_getElem (by rw [hlen]; exact ht)⟩
          have hvr := HA9.out.rows t v hv
          rw [show ({ S with T := T9 } : RSt).sn t = S.sn t from rfl] at hvr
          obtain ⟨va', vc', hvf, _, _, _⟩ := hvr.form
          have w66 := (HA9.out.cell (66 + t)).trans ((HA9.out.c3 t ht).trans hv)
          obtain ⟨qn, hqn⟩ : ∃ qn, qn = (S.sn t).length := ⟨_, rfl⟩
          rw [hvf, ← hqn] at w66
          rw [hvf, ← hqn] at hvr
          rw [← hqn] at hsf
          have hvb : some b ≠ (Value.slice va' qn vc').ownBlock := fun e => hvr.ne_type hb9 (by decide) e.symm
          have hbl := lt_of_block hb9
          have hr11 : Row (W9.drew.alloc (.cells #[.int .i64 pi] 3)) 3 1 (.slice va' qn vc') qn ((S.sn t).map idV) := hvr.keep fun g hg => Below.heap_alloc W9.drew _ g (hvr.lt g hg)
          obtain ⟨i1, hi1, hz10, hz11, hz12⟩ := info_parts infoNum
          have hvq : some q ≠ (Value.slice va' qn vc').ownBlock := fun e => by
            obtain ⟨cur, hc⟩ := HA9.out.list.typed q (by rw [HV1.out]; rfl)
            exact hvr.ne_type hc (by decide) e.symm
          have hq9 : q < W9.heap.size := HA9.out.lt q HFq.out
          have HQNE := Lib.hid hvq
          have H11 := Lib.hid hr11
          have HBN := Lib.hid hvb
          have HB9 := Lib.hid hb9
          have HVF := Lib.hid hvf
          have HQN := Lib.hid hqn
          have HV := Lib.hid hv
          have fz9 : W9.frozen? ⟨b, 66 + t, none⟩ = false := Joins.unfrozen_of_block hb9 _
          clear hb9 hlen hv hvr hvf hqn hvb hr11 hvq hor m8 ff hW9s hma
          go_region_law ((refine step_append_row _ rfl (.tmp 187) (.tmp 192) 57 rfl 3 i1 _ 1 8 Try.underlying57 hi1 hz10 hz11 hz12 rfl (by omega) (.slice va' qn vc') qn ((S.sn t).map idV) rfl H11.out ⟨W9.heap.size, 0, none⟩ 1 1 [.int .i64 pi] rfl rfl (news_alloc W9.drew _ _ rfl) (by simp [Value.oneCell']) (by omega) (by unfold maxLen; omega) (by omega) _ rfl ?_; intro g9 off cap w11 hrow hg11 hat; have z1 : w11.cell? ⟨b, 66 + t, none⟩ = some (.slice va' qn vc') := (hg11.cell_far (a := ⟨b, 66 + t, none⟩) (by simp; omega) HBN.out).trans ((World.cell?_of_block (Below.heap_alloc W9.drew _ b hbl)).trans w66); have z2 : w11.frozen? ⟨b, 66 + t, none⟩ = false := (hg11.frozen_far (a := ⟨b, 66 + t, none⟩) (by simp; omega) HBN.out).trans ((World.frozen?_of_block (Below.heap_alloc W9.drew _ b hbl)).trans (Joins.unfrozen_of_block HB9.out (66 + t))); have z3 : w11.cell? ⟨q, o + i0 * 9, none⟩ = some (.int .i64 pi) := (hg11.cell_far (a := ⟨q, o + i0 * 9, none⟩) (by simp; omega) HQNE.out).trans ((World.cell?_of_block (Below.heap_alloc W9.drew _ q hq9)).trans m0')))
          all_goals
            go_wp2_with fail
            go_ret2
            have hVF := HVF.out
            have hQN := HQN.out
            rw [← hQN] at hVF
            have hvo : ∀ q', (Value.slice (some ⟨g9, off, none⟩) (qn + 1) cap).ownBlock = some q' → v.ownBlock = some q' ∨ W9.heap.size ≤ q' := fun q' hq' => by
              simp only [Value.ownBlock, Option.some.injEq] at hq'
              subst hq'
              rcases hat with hat | hat
              · exact .inl (by rw [hVF]; exact hat)
              · exact .inr (by rw [hat]; show W9.heap.size ≤ (W9.alloc _).heap.size; simp)
            have hk11 : Keeps (fun i => v.ownBlock = some i) W9 w11 := Keeps.grown ((Keeps.refl _ W9).drew.alloc (.cells #[.int .i64 pi] 3)) hg11 fun g' hg' _ => by rw [hVF]; exact hg'
            have hrow' : Row w11 3 1 (.slice (some ⟨g9, off, none⟩) (qn + 1) cap) (S.sn t ++ [pi]).length ((S.sn t ++ [pi]).map idV) := by
              rw [List.map_append, List.length_append, ← hQN]
              exact hrow
            have hF := HA9.out.sinced ht HV.out (S.sn t ++ [pi]) hrow' hk11 hvo
            have hst : ({ ({ S with T := T9 } : RSt) with since := S.since.set t (S.sn t ++ [pi]) } : RSt) = tookR S t i0 (pi, { k := xk, a := xa, b := xb, c := xc, d := xd, lv := xl, va := xv, ma := xm }) := by
              unfold tookR
              rw [HT9.out, HMM.out]
            have hF' : IsRe b (tookR S t i0 (pi, { k := xk, a := xa, b := xb, c := xc, d := xd, lv := xl, va := xv, ma := xm })) _ _ := ⟨_, _, _, by rw [← hst]; exact hF⟩
            refine ⟨pi, 0, _, _, rfl, .inr (.inr (.inl ⟨i0, _, HP0.out, HK0.out, HBIT.out, by rw [← HQT.out, ← HCN.out]; exact hlt, rfl, rfl, rfl⟩)), hF', fun i hi => ?_, ?_⟩
            · rcases hi with hi | hi
              · exact .inl hi
              · rcases hvo i hi with h1 | h1
                · exact .inl (HA9.out.fv t v i HV.out h1)
                · exact .inr (Nat.le_trans HK9.out.size h1)
            · exact (HK9.out.trans hk11 (fun i _ e => HA9.out.fv t v i HV.out e)).setCell (p := ⟨b, 66 + t, none⟩) (fun _ => HA9.out.fb) _
end Go.Proofs.Ytdmamecfmfhlmaa
