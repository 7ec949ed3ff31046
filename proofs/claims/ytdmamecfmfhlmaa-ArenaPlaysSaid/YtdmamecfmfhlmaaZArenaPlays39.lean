/-
  ref.Store's lose, whatever is asked of each thing; ref.Store's Undo.
-/
import Derived.Test.YtdmamecfmfhlmaaZArenaPlaysReRow
namespace Go.Proofs.Ytdmamecfmfhlmaa
set_option maxRecDepth 100000
open Go.RowKit

theorem xor_one_odd {z : Nat} (h : z % 2 = 1) : z ^^^ 1 = z - 1 := by
  have h1 : ¬ (z ^^^ 1) % 2 = 1 := by
    rw [Nat.xor_mod_two_eq_one]
    simp [h]
  have h2 : (z ^^^ 1) / 2 ^ 1 = z / 2 ^ 1 ^^^ 1 / 2 ^ 1 := Nat.xor_div_two_pow
  rw [show 1 / 2 ^ 1 = 0 from rfl, Nat.xor_zero] at h2
  omega
theorem xor_sub {x t : Nat} (h : x.testBit t = true) : x ^^^ 2 ^ t = x - 2 ^ t ∧ 2 ^ t ≤ x := by
  rw [Nat.testBit_eq_decide_div_mod_eq, decide_eq_true_eq] at h
  have hp : 0 < 2 ^ t := Nat.two_pow_pos t
  have h1 : (x ^^^ 2 ^ t) / 2 ^ t = x / 2 ^ t ^^^ 2 ^ t / 2 ^ t := Nat.xor_div_two_pow
  have h2 : (x ^^^ 2 ^ t) % 2 ^ t = x % 2 ^ t ^^^ 2 ^ t % 2 ^ t := Nat.xor_mod_two_pow
  rw [Nat.div_self hp, xor_one_odd h] at h1
  rw [Nat.mod_self, Nat.xor_zero] at h2
  have e1 := Nat.div_add_mod (x ^^^ 2 ^ t) (2 ^ t)
  have e2 := Nat.div_add_mod x (2 ^ t)
  rw [h1, h2] at e1
  obtain ⟨z, hz⟩ : ∃ z, z = x / 2 ^ t := ⟨_, rfl⟩
  obtain ⟨q, hq⟩ : ∃ q, x / 2 ^ t = q + 1 := ⟨x / 2 ^ t - 1, by rw [← hz] at h ⊢; omega⟩
  rw [hq] at e1 e2
  rw [Nat.add_sub_cancel] at e1
  rw [Nat.mul_add, Nat.mul_one] at e2
  omega
theorem sub_bit {m t : Nat} (hm : m < 18446744073709551616) (ht : t < 64) (hb : m.testBit t = true) : IntKind.u64.wrap ((m : Int) - IntKind.u64.wrap (2 ^ t)) = ((m ^^^ 2 ^ t : Nat) : Int) := by
  have h2 : 2 ^ t < 18446744073709551616 := Nat.pow_lt_pow_right (n := 64) (by omega) ht
  obtain ⟨h3, h4⟩ := xor_sub hb
  rw [h3]
  have e : ((2 : Int) ^ t) = ((2 ^ t : Nat) : Int) := by rw [Int.natCast_pow]; rfl
  rw [e]
  obtain ⟨p, hp⟩ : ∃ p : Nat, p = 2 ^ t := ⟨_, rfl⟩
  rw [← hp] at h2 h4 ⊢
  rw [IntKind.wrap_u64, IntKind.wrap_u64]
  omega
/-- The first k things as they are behind the loss. -/
def lostTo (T : List (Nat × Ent)) (t : Nat) (f : Nat × Ent → Bool) (k : Nat) : List (Nat × Ent) := (T.take k).map (lostP t f) ++ T.drop k
section
variable {T : List (Nat × Ent)} {t : Nat} {f : Nat × Ent → Bool} {k : Nat} {p : Nat × Ent}
theorem lostTo_len : (lostTo T t f k).length = T.length := by
  unfold lostTo
  rw [List.length_append, List.length_map, List.length_take, List.length_drop]
  omega
theorem lostTo_at (hp : T[k]? = some p) : (lostTo T t f k)[k]? = some p := by
  have hk := (List.getElem?_eq_some_iff.1 hp).1
  unfold lostTo
  rw [List.getElem?_append_right (by rw [List.length_map, List.length_take]; omega), List.length_map, List.length_take, List.getElem?_drop, ← hp]
  congr 1
  omega
theorem lostTo_next (hp : T[k]? = some p) : lostTo T t f (k + 1) = (lostTo T t f k).set k (lostP t f p) := by
  obtain ⟨hk, e⟩ := List.getElem?_eq_some_iff.1 hp
  have hl : ((T.take k).map (lostP t f)).length = k := by rw [List.length_map, List.length_take]; omega
  unfold lostTo
  rw [List.set_append_right _ _ (by omega), hl, Nat.sub_self, List.drop_eq_getElem_cons hk, e, List.set_cons_zero, List.take_add_one, hp, List.map_append, List.append_assoc]
  rfl
theorem lostTo_same (hp : T[k]? = some p) (h : lostP t f p = p) : lostTo T t f (k + 1) = lostTo T t f k := by
  rw [lostTo_next hp, h]
  obtain ⟨hk, e⟩ := List.getElem?_eq_some_iff.1 (lostTo_at (t := t) (f := f) hp)
  rw [← e, List.set_getElem_self]
theorem lostN_next (hp : T[k]? = some p) : lostN (T.take (k + 1)) t f = lostN (T.take k) t f + if (p.2.ma.testBit t && f p) = true then 1 else 0 := by
  unfold lostN
  rw [List.take_add_one, hp, List.countP_append]
  simp
theorem lostTo_end (h : T.length ≤ k) : lostTo T t f k = T.map (lostP t f) := by
  unfold lostTo
  rw [List.take_of_length_le h, List.drop_eq_nil_of_le h, List.append_nil]
end
set_option maxHeartbeats 4000000 in
set_option maxRecDepth 100000 in
theorem loseR_any (N : Nat) (hN : N = 93 ∨ N = 94) (cb b : Nat) (S : RSt) (arr : Array Value) (v1 : Value) (vs : List Value) (F : Nat → Prop) (t : Nat) (f : Nat × Ent → Bool) (w : World) (h : ReAt b S arr v1 vs w F) (ht : t < 64)
    (hc : ∀ p ∈ S.T, ∀ W, Keeps (fun i => v1.ownBlock = some i) w W → Calls Try.prog N #[thingV p, .pointer (some ⟨cb, 0, none⟩)] W fun e w' => e = .returned (.bool (f p)) ∧ Below W.heap.size W w') (hma : ∀ p ∈ S.T, p.2.ma < 18446744073709551616) :
    Calls Try.prog 92 #[.pointer (some ⟨b, 0, none⟩), .int .i64 t, .func (.func N) #[] #[.pointer (some ⟨cb, 0, none⟩)]] w (Mut w F (IsRe b (loseR S t f)) (.int .i64 (lostN S.T t f : Nat))) := by
  obtain ⟨a, c, hv, -⟩ := h.list.form
  have hfew := h.few
  obtain ⟨M, hM⟩ : ∃ M, M = S.T.length := ⟨_, rfl⟩
  rw [← hM] at hv hfew
  have d1 : w.cell? ⟨b, 1, none⟩ = some (.slice a M c) := (h.cell 1).trans (h.c1.trans (congrArg some hv))
  have hFv : ∀ i, v1.ownBlock = some i → F i := fun i e => h.f1 i e
  have HFV := Lib.hid hFv
  have HM := Lib.hid hM
  have HV := Lib.hid hv
  have HC := Lib.hid hc
  have HMA := Lib.hid hma
  have HFB := Lib.hid h.fb
  have HS0 : Aside (ReAt b { S with T := lostTo S.T t f 0 } arr v1 vs w F) := h
  have ht0 : (0 : Int) ≤ t := by omega
  have htI : (t : Int) < 64 := by omega
  clear h hv hM hc hma hFv
  rcases hN with rfl | rfl
  all_goals
    go_enter Try.func92, Try.ntmps92
    go_wp2_with fail
    go_loopw [7, 8, 14] (fun nv _ iv ws => ∃ k m : Nat, iv = .int .i64 k ∧ nv = .int .i64 m ∧ k ≤ M ∧ m ≤ k ∧ Aside (m = lostN (S.T.take k) t f) ∧ Aside (ReAt b { S with T := lostTo S.T t f k } arr v1 vs ws F) ∧ Keeps (fun i => v1.ownBlock = some i) w ws) (fun _ _ iv _ => M - (intOf iv).toNat)
    case atStart => exact ⟨0, 0, rfl, rfl, Nat.zero_le _, Nat.le_refl _, (show (0 : Nat) = lostN (S.T.take 0) t f from rfl), HS0, Keeps.refl _ _⟩
    case round =>
      obtain ⟨k, m, rfl, rfl, hkM, hmk, HN, HR, hkw⟩ := hrel
      have b1 : wr.cell? ⟨b, 1, none⟩ = some (.slice a M c) := (HR.out.cell 1).trans (HR.out.c1.trans (congrArg some HV.out))
      by_cases hk : k < M
      · obtain ⟨p, hp⟩ : ∃ p, S.T[k]? = some p := ⟨_, List.getElem?_eq_getElem (by rw [← HM.out]; exact hk)⟩
        obtain ⟨q, o, c', hv', hFq, hqb, hcl, hfz⟩ := HR.out.thing (i := k) (p := p) (lostTo_at hp)
        rw [HV.out] at hv'
        simp only [Value.slice.injEq] at hv'
        obtain ⟨rfl, hNN, rfl⟩ := hv'
        have c0 := hcl 0 (by omega)
        have c1 := hcl 1 (by omega)
        have c2 := hcl 2 (by omega)
        have c3 := hcl 3 (by omega)
        have c4 := hcl 4 (by omega)
        have c5 := hcl 5 (by omega)
        have c6 := hcl 6 (by omega)
        have c7 := hcl 7 (by omega)
        have c8 := hcl 8 (by omega)
        simp only [encTh, List.getElem?_cons_zero, List.getElem?_cons_succ, Nat.add_zero] at c0 c1 c2 c3 c4 c5 c6 c7 c8
        have u1 : decide ((k : Int) < (M : Int)) = true := decide_eq_true (by omega)
        have u2 : decide (k < M) = true := decide_eq_true hk
        have hrb := fun b hb => rem_one (m := p.2.ma) (t := t) b hb
        have HCP := Lib.hid (HC.out p (List.mem_of_getElem? hp) wr hkw)
        have hmp := HMA.out p (List.mem_of_getElem? hp)
        have HP := Lib.hid hp
        have HNX := Lib.hid (lostN_next (t := t) (f := f) hp)
        have ff := hfz (o + k * 9 + 8)
        have HKW := Lib.hid hkw
        obtain ⟨r, hr⟩ : ∃ r, r = f p := ⟨_, rfl⟩
        rw [← hr] at HCP HNX
        have HRE := Lib.hid hr
        obtain ⟨pi, xk, xa, xb, xc, xd, xl, xv, xm⟩ := p
        unfold thingV at HCP
        simp only at c0 c1 c2 c3 c4 c5 c6 c7 c8 hrb hmp HNX HCP
        clear hp hcl hfz hFq hqb hNN hr hkw
        cases hbit : xm.testBit t with
        | false =>
          have hrt := hrb false hbit
          have HM2 := Lib.hid (show m = lostN (S.T.take (k + 1)) t f by rw [HNX.out, hbit, ← HN.out]; rfl)
          have HR2 : Aside (ReAt b { S with T := lostTo S.T t f (k + 1) } arr v1 vs wr F) := by
            have e := lostTo_same (t := t) (f := f) HP.out (by unfold lostP; rw [show (pi, (⟨xk, xa, xb, xc, xd, xl, xv, xm⟩ : Ent)).2.ma = xm from rfl, hbit]; rfl)
            show ReAt b { S with T := lostTo S.T t f (k + 1) } arr v1 vs wr F
            rw [e]
            exact HR.out
          clear hrb hbit
          go_wp2_with fail
          exact ⟨⟨k + 1, m, by go_num, rfl, hk, by omega, HM2.out, HR2, HKW.out⟩, by simp [intOf]; omega⟩
        | true =>
          have hrt := hrb true hbit
          have HBT := Lib.hid hbit
          cases r with
          | false =>
            have HM2 := Lib.hid (show m = lostN (S.T.take (k + 1)) t f by rw [HNX.out, ← HN.out, Bool.and_false]; rfl)
            have e := lostTo_same (t := t) (f := f) HP.out (by unfold lostP; rw [← HRE.out, Bool.and_false]; rfl)
            have HE := Lib.hid e
            clear hrb hbit e
            go_wp2_with fail
            with_reducible refine HCP.out.mono ?_
            rintro e2 w2 ⟨rfl, hb2⟩
            have HB2 := Lib.hid hb2
            clear hb2
            go_wp2_with fail
            exact ⟨⟨k + 1, m, by go_num, rfl, hk, by omega, HM2.out, (by show ReAt _ _ _ _ _ _ _; rw [HE.out]; exact HR.out.below HB2.out), HKW.out.below HB2.out⟩, by simp [intOf]; omega⟩
          | true =>
            have HM2 := Lib.hid (show m + 1 = lostN (S.T.take (k + 1)) t f by rw [HNX.out, ← HN.out, hbit]; rfl)
            have HSB := sub_bit hmp ht hbit
            obtain ⟨mm, hmm⟩ : ∃ m, m = xm ^^^ 2 ^ t := ⟨_, rfl⟩
            rw [← hmm] at HSB
            have e := lostTo_next (t := t) (f := f) HP.out
            have e2 : lostP t f (pi, ⟨xk, xa, xb, xc, xd, xl, xv, xm⟩) = (pi, ⟨xk, xa, xb, xc, xd, xl, xv, mm⟩) := by
              unfold lostP
              rw [show (pi, (⟨xk, xa, xb, xc, xd, xl, xv, xm⟩ : Ent)).2.ma = xm from rfl, HBT.out, ← HRE.out, hmm]
              rfl
            rw [e2] at e
            have HE := Lib.hid e
            clear hrb hbit e e2 hmm
            go_wp2_with fail
            with_reducible refine HCP.out.mono ?_
            rintro e3 w2 ⟨rfl, hb2⟩
            have hA2 := HR.out.below hb2
            obtain ⟨q2, o2, c2', hv2, hFq2, hqb2, hcl2, hfz2⟩ := hA2.thing (i := k) (p := (pi, ⟨xk, xa, xb, xc, xd, xl, xv, xm⟩)) (lostTo_at HP.out)
            rw [HV.out] at hv2
            simp only [Value.slice.injEq, Option.some.injEq, Addr.mk.injEq, and_true] at hv2
            obtain ⟨⟨rfl, rfl⟩, -, rfl⟩ := hv2
            have m8 := hcl2 8 (by omega)
            simp only [encTh, List.getElem?_cons_zero, List.getElem?_cons_succ] at m8
            have f8 := hfz2 (o + k * 9 + 8)
            have b1' : w2.cell? ⟨b, 1, none⟩ = some (.slice (some ⟨q, o, none⟩) M c) := (hA2.cell 1).trans (hA2.c1.trans (congrArg some HV.out))
            have hlist : Row w2 118 9 v1 (lostTo S.T t f k).length (encTs (lostTo S.T t f k)) := hA2.list
            rw [HV.out] at hlist
            have hlen : (lostTo S.T t f k).length = M := by rw [lostTo_len, HM.out]
            have hR9 := rowT_cell (k := 8) (i := k) (T := lostTo S.T t f k) (o' := (pi, (⟨xk, xa, xb, xc, xd, xl, xv, mm⟩ : Ent))) (v := .int .u64 (mm : Int)) (by rw [hlen] at hlist ⊢; exact hlist) (lostTo_at HP.out) (by omega) rfl
            have HR9 := Lib.hid hR9
            have HB2 := Lib.hid hb2
            have HA2 := Lib.hid hA2
            have HLEN := Lib.hid hlen
            clear hA2 hcl2 hfz2 hlist hR9 hb2 hlen hFq2 hqb2
            go_wp2_with fail
            have hk9 : Keeps (fun j => v1.ownBlock = some j) w2 (w2.setCell ⟨q, o + k * 9 + 8, none⟩ (.int .u64 (mm : Int))) := (Keeps.refl _ w2).setCell (p := ⟨q, o + k * 9 + 8, none⟩) (fun _ => by rw [HV.out]; rfl) _
            have hfin := HA2.out.relist hk9 (T' := lostTo S.T t f (k + 1)) (by
              have h9 := HR9.out
              rw [HE.out]
              rw [List.length_set, HLEN.out] at h9
              rw [HV.out, List.length_set, HLEN.out]
              exact h9) (by rw [lostTo_len, ← HM.out]; exact hfew)
            exact ⟨⟨k + 1, m + 1, by go_num, by go_num, hk, by omega, HM2.out, hfin, (HKW.out.below HB2.out).trans hk9 (fun _ _ h => h)⟩, by simp [intOf]; omega⟩
      · have u1 : decide ((k : Int) < (M : Int)) = false := decide_eq_false (by omega)
        have u2 : decide (k < M) = false := decide_eq_false hk
        have hall : lostTo S.T t f k = S.T.map (lostP t f) := lostTo_end (by rw [← HM.out]; omega)
        have hm9 : m = lostN S.T t f := by rw [HN.out, List.take_of_length_le (by rw [← HM.out]; omega)]
        have hA := HR.out
        rw [hall] at hA
        have hlen := hA.len
        obtain ⟨v, hv⟩ : ∃ v, vs[t]? = some v := ⟨_, List.getElem?_eq_getElem (by omega)⟩
        have c6 := (hA.cell (66 + t)).trans ((hA.c3 t ht).trans hv)
        have f6 : wr.frozen? ⟨b, 66 + t, none⟩ = false := Joins.unfrozen_of_block hA.own _
        have HMK := Lib.hid (hA.marked ht)
        have HKW := Lib.hid hkw
        have HM9 := Lib.hid hm9
        clear hall hA hlen hv hkw hm9
        go_wp2_with fail
        go_ret
        refine ⟨by rw [HM9.out]; rfl, F, ⟨_, _, _, HMK.out⟩, fun i hi => .inl hi, ?_⟩
        exact (HKW.out.mono fun i _ e => HFV.out i e).setCell (p := ⟨b, 66 + t, none⟩) (fun _ => HFB.out) _
end Go.Proofs.Ytdmamecfmfhlmaa
namespace Go.Proofs.Ytdmamecfmfhlmaa
set_option maxRecDepth 100000
open Go.RowKit

set_option maxHeartbeats 2000000 in
theorem undoSees (p : Nat × Ent) (cb : Nat) (v : Value) (l : List Nat) (w : World) (hb : w.heap[cb]? = some (.cells #[v] 57 (0, 0))) (hr : Row w 3 1 v l.length (l.map idV)) (hl : l.length ≤ 200000) :
    Calls Try.prog 93 #[thingV p, .pointer (some ⟨cb, 0, none⟩)] w fun e w' => e = .returned (.bool (decide (p.1 ∈ l))) ∧ Below w.heap.size w w' := by
  obtain ⟨pi, xk, xa, xb, xc, xd, xl, xv, xm⟩ := p
  obtain ⟨X, hX⟩ : ∃ X, X = w.alloc (.cells #[.int .i64 pi, .int .i64 xk, .int .i64 xl, .int .i64 xv, .int .i64 xa, .int .i64 xb, .int .i64 xc, .int .i64 xd, .int .u64 xm] 118) := ⟨_, rfl⟩
  have hbX : Below w.heap.size w X := by rw [hX]; exact (Below.refl _ _).alloc (Nat.le_refl _) _
  have hx0 : X.heap[w.heap.size]? = some (.cells #[.int .i64 pi, .int .i64 xk, .int .i64 xl, .int .i64 xv, .int .i64 xa, .int .i64 xb, .int .i64 xc, .int .i64 xd, .int .u64 xm] 118 (0, 0)) := by rw [hX]; exact blk_last w _ rfl
  have hcX : X.heap[cb]? = _ := (hbX.block _ (lt_of_block hb)).trans hb
  have hrX : Row X 3 1 v l.length (l.map idV) := hr.keep fun q hq => hbX.block q (hr.lt q hq)
  obtain ⟨a, c, rfl, -⟩ := hr.form
  obtain ⟨n, hn⟩ : ∃ n, n = l.length := ⟨_, rfl⟩
  rw [← hn] at hrX hcX hl
  have d0 : X.cell? ⟨cb, 0, none⟩ = some (.slice a n c) := Joins.cell_of_block hcX 0
  have x0 : X.cell? ⟨w.heap.size, 0, none⟩ = some (.int .i64 pi) := Joins.cell_of_block hx0 0
  have HX := Lib.hid hX
  have HBX := Lib.hid hbX
  have HN := Lib.hid hn
  have HRX := Lib.hid hrX
  unfold thingV
  simp only
  clear hX hbX hx0 hcX hrX hn hb hr
  go_enter Try.func93, Try.ntmps93
  go_upto_region 1 with fail
  rw [← HX.out]
  go_wp2_with fail
  go_loopw [5, 8] (fun _ iv ws => ∃ k : Nat, iv = .int .i64 k ∧ k ≤ n ∧ Aside (∀ j m, j < k → l[j]? = some m → m ≠ pi) ∧ ws = X) (fun _ iv _ => n - (intOf iv).toNat)
  case atStart => exact ⟨0, rfl, Nat.zero_le _, (show ∀ j m, j < 0 → l[j]? = some m → m ≠ pi from fun j m h => by omega), rfl⟩
  case round =>
    obtain ⟨k, rfl, hkn, HB, rfl⟩ := hrel
    by_cases hk : k < n
    · obtain ⟨g, o, rfl, hcell, hf, _⟩ := HRX.out.cells (by omega)
      obtain ⟨y, hy⟩ : ∃ y, l[k]? = some y := ⟨_, List.getElem?_eq_getElem (by rw [← HN.out]; exact hk)⟩
      have ey := hcell k (by omega)
      rw [List.getElem?_map, hy] at ey
      have ey' : wr.cell? ⟨g, o + k, none⟩ = some (.int .i64 y) := ey
      have u1 : decide ((k : Int) < (n : Int)) = true := decide_eq_true (by omega)
      have u2 : decide (k < n) = true := decide_eq_true hk
      have HY := Lib.hid hy
      clear hcell hf hy ey
      by_cases e : y = pi
      · subst e
        have HA := Lib.hid (show decide (y ∈ l) = true from decide_eq_true (List.mem_of_getElem? HY.out))
        go_wp2_with fail
        go_ret
        exact ⟨by rw [HA.out]; rfl, HBX.out⟩
      · have u3 : ((y : Int) == (pi : Int)) = false := by simp; omega
        have HB2 : Aside (∀ j m, j < k + 1 → l[j]? = some m → m ≠ pi) := fun j m hj hm => by
          by_cases ej : j = k
          · rw [ej, HY.out] at hm
            obtain rfl := Option.some.inj hm
            exact e
          · exact HB.out j m (by omega) hm
        clear e
        go_wp2_with fail
        exact ⟨⟨k + 1, by go_num, hk, HB2, trivial⟩, by simp [intOf]; omega⟩
    · have u1 : decide ((k : Int) < (n : Int)) = false := decide_eq_false (by omega)
      have u2 : decide (k < n) = false := decide_eq_false hk
      have HA := Lib.hid (show decide (pi ∈ l) = false from decide_eq_false fun hm => by
        obtain ⟨j, hj⟩ := List.mem_iff_getElem?.1 hm
        have := (List.getElem?_eq_some_iff.1 hj).1
        rw [← HN.out] at this
        exact HB.out j pi (by omega) hj rfl)
      go_wp2_with fail
      go_ret
      exact ⟨by rw [HA.out]; rfl, HBX.out⟩
def undoF (S : RSt) (t : Nat) (p : Nat × Ent) : Bool := decide (p.1 ∈ S.sn t)
set_option maxHeartbeats 2000000 in
theorem undoR_in (b : Nat) (S : RSt) (arr : Array Value) (v1 : Value) (vs : List Value) (F : Nat → Prop) (t : Nat) (w : World) (h : ReAt b S arr v1 vs w F) (ht : t < 64) (hsf : (S.sn t).length ≤ 200000) (hma : ∀ p ∈ S.T, p.2.ma < 18446744073709551616) :
    Calls Try.prog 70 #[.pointer (some ⟨b, 0, none⟩), .int .i64 t] w (Mut w F (IsRe b (loseR S t (undoF S t))) (.int .i64 (lostN S.T t (undoF S t) : Nat))) := by
  have HT := Lib.hid (person_in t ht)
  have hlen := h.len
  obtain ⟨v, hv⟩ : ∃ v, vs[t]? = some v := ⟨_, List.getElem?_eq_getElem (by omega)⟩
  have c6 := (h.cell (66 + t)).trans ((h.c3 t ht).trans hv)
  obtain ⟨X, hX⟩ : ∃ X, X = w.alloc (.cells #[v] 57) := ⟨_, rfl⟩
  have hbX : Below w.heap.size w X := by rw [hX]; exact (Below.refl _ _).alloc (Nat.le_refl _) _
  have hx0 : X.heap[w.heap.size]? = some (.cells #[v] 57 (0, 0)) := by rw [hX]; exact blk_last w _ rfl
  have hA := h.below hbX
  have hvr := hA.rows t v hv
  have hL := loseR_any 93 (.inl rfl) w.heap.size b S arr v1 vs F t (undoF S t) X hA ht (fun p _ W hk => by
    refine undoSees p w.heap.size v (S.sn t) W ?_ ?_ hsf
    · rw [hk.block _ (lt_of_block hx0) fun e => by
        have := h.f1 _ e
        have := h.lt _ this
        omega]
      exact hx0
    · refine hvr.keep fun q hq => hk.block q (hvr.lt q hq) fun e => ?_
      obtain ⟨cur, hc⟩ := hvr.typed q hq
      exact hA.list.ne_type hc (by decide) e) hma
  have HL := Lib.hid hL
  have HX := Lib.hid hX
  have HBX := Lib.hid hbX
  have hvf : ∃ a n c, v = .slice a n c := by
    obtain ⟨a, c, e, -⟩ := hvr.form
    exact ⟨a, _, c, e⟩
  obtain ⟨va, vn, vc, rfl⟩ := hvf
  have ht0 : (0 : Int) ≤ t := by omega
  have htI : (t : Int) < 64 := by omega
  clear h hlen hv hX hbX hx0 hA hvr hL
  go_enter Try.func70, Try.ntmps70
  go_wp2_with fail
  refine (HT.out _).mono ?_
  rintro e w1 ⟨rfl, rfl⟩
  go_wp2_with fail
  rw [← HX.out]
  with_reducible refine HL.out.mono ?_
  rintro e w2 ⟨rfl, F', h1, h2, h3⟩
  have H1 := Lib.hid h1
  have H2 := Lib.hid h2
  have H3 := Lib.hid h3
  clear h1 h2 h3
  go_wp2_with fail
  go_ret
  refine ⟨rfl, F', H1.out, fun i hi => (H2.out i hi).imp (fun h => h) (fun h => ?_), (Keeps.of_below (F := F) HBX.out).trans H3.out (fun _ _ h => h)⟩
  have := HBX.out.size
  omega
theorem undoR_out (b : Nat) (S : RSt) (F : Nat → Prop) (t : Int) (ht : t < 0 ∨ 64 ≤ t) (w : World) (h : IsRe b S w F) :
    Calls Try.prog 70 #[.pointer (some ⟨b, 0, none⟩), .int .i64 t] w (Mut w F (IsRe b S) (.int .i64 0)) := by
  have HT := Lib.hid (person_out t ht)
  have HI := Lib.hid h
  clear h
  go_enter Try.func70, Try.ntmps70
  go_wp2_with fail
  refine (HT.out _).mono ?_
  rintro e w1 ⟨rfl, rfl⟩
  go_wp2_with fail
  go_ret
  exact Mut.same HI.out
end Go.Proofs.Ytdmamecfmfhlmaa
