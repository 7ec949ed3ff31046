/-
  ref.Store's Count and Recall; ref.Store's Sweep.
-/
import Derived.Test.YtdmamecfmfhlmaaZArenaPlaysReRead
namespace Go.Proofs.Ytdmamecfmfhlmaa
set_option maxRecDepth 100000
open Go.RowKit

def countR (T : List (Nat × Ent)) (t : Nat) : Nat := T.countP fun p => p.2.ma.testBit t
theorem countR_snoc {T : List (Nat × Ent)} {t k : Nat} {p : Nat × Ent} (hp : T[k]? = some p) : countR (T.take (k + 1)) t = countR (T.take k) t + if p.2.ma.testBit t then 1 else 0 := by
  unfold countR
  rw [List.take_add_one, hp, List.countP_append]
  simp
theorem countR_le (T : List (Nat × Ent)) (t : Nat) : countR T t ≤ T.length := List.countP_le_length
theorem rem_one {m t : Nat} (b : Bool) (h : m.testBit t = b) : (((m : Int) / 2 ^ t).tmod 2 == 1) = b := by
  rw [rem_bit, h]
  cases b <;> rfl
/-- A box with a thing. -/
def boxT (w : World) (p : Nat × Ent) : World := w.alloc (.cells #[.int .i64 p.1, .int .i64 p.2.k, .int .i64 p.2.lv, .int .i64 p.2.va, .int .i64 p.2.a, .int .i64 p.2.b, .int .i64 p.2.c, .int .i64 p.2.d, .int .u64 p.2.ma] 118)
set_option maxHeartbeats 2000000 in
theorem countR_any (b : Nat) (S : RSt) (arr : Array Value) (v1 : Value) (vs : List Value) (F : Nat → Prop) (t : Int) (w : World) (h : ReAt b S arr v1 vs w F) :
    Calls Try.prog 76 #[.pointer (some ⟨b, 0, none⟩), .int .i64 t] w fun e w' => e = .returned (.int .i64 (if tenB t = true then countR S.T t.toNat else 0 : Nat)) ∧ Below w.heap.size w w' := by
  obtain ⟨a, c, hv, hc, hm, ha⟩ := h.list.form
  have d1 := (h.cell 1).trans h.c1
  have hfew := h.few
  obtain ⟨N, hN⟩ : ∃ N, N = S.T.length := ⟨_, rfl⟩
  rw [← hN] at hv hc hfew
  rw [hv] at d1
  have HH := Lib.hid h
  have HN := Lib.hid hN
  have HV := Lib.hid hv
  clear h hv hN ha hc hm
  rcases ten_cases t with ⟨t, ht, rfl⟩ | ht
  · have HT := Lib.hid (person_in t ht)
    rw [tenB_in ht, if_pos rfl, Int.toNat_natCast]
    have ht0 : (0 : Int) ≤ t := by omega
    have htI : (t : Int) < 64 := by omega
    obtain ⟨cn, hcn⟩ : ∃ cn, cn = countR S.T t := ⟨_, rfl⟩
    rw [← hcn]
    have HCN := Lib.hid hcn
    clear hcn
    go_enter Try.func76, Try.ntmps76
    go_wp2_with fail
    go_loopw [5, 7, 13] (fun nv _ iv ws => ∃ k m : Nat, iv = .int .i64 k ∧ nv = .int .i64 m ∧ k ≤ N ∧ m ≤ k ∧ Aside (m = countR (S.T.take k) t) ∧ Below w.heap.size w ws) (fun _ _ iv _ => N - (intOf iv).toNat)
    case atStart => exact ⟨0, 0, rfl, rfl, Nat.zero_le _, Nat.le_refl _, (show (0 : Nat) = countR (S.T.take 0) t from rfl), Below.refl _ _⟩
    case round =>
      obtain ⟨k, m, rfl, rfl, hkN, hmk, HM, hbl⟩ := hrel
      by_cases hk : k < N
      · obtain ⟨p, hp⟩ : ∃ p, S.T[k]? = some p := ⟨_, List.getElem?_eq_getElem (by rw [← HN.out]; exact hk)⟩
        obtain ⟨q, o, c', hv', hFq, hqb, hcl, hfz⟩ := (HH.out.below hbl).thing hp
        rw [HV.out] at hv'
        simp only [Value.slice.injEq] at hv'
        obtain ⟨rfl, hNN, rfl⟩ := hv'
        have c0 := hcl 0 (by omega)
        have c1 := hcl 1 (by omega)
        have c2 := hcl 2 (by omega)
        have c3 := hcl 3 (by omega)
        have c4 := hcl 4 (by omega)
        have c5 := hcl 5 (by omega)
        have c6 := hcl 6 (by omega)
        have c7 := hcl 7 (by omega)
        have c8 := hcl 8 (by omega)
        simp only [encTh, List.getElem?_cons_zero, List.getElem?_cons_succ, Nat.add_zero] at c0 c1 c2 c3 c4 c5 c6 c7 c8
        have u1 : decide ((k : Int) < (N : Int)) = true := decide_eq_true (by omega)
        have u2 : decide (k < N) = true := decide_eq_true hk
        have HSN := Lib.hid (countR_snoc (t := t) hp)
        have hrb := fun b hb => rem_one (m := p.2.ma) (t := t) b hb
        obtain ⟨pi, px⟩ := p
        obtain ⟨xk, xa, xb, xc, xd, xl, xv, xm⟩ := px
        simp only at c0 c1 c2 c3 c4 c5 c6 c7 c8 hrb HSN
        have HB1 := Lib.hid (hbl.alloc hbl.size (.cells #[.int .i64 pi, .int .i64 xk, .int .i64 xl, .int .i64 xv, .int .i64 xa, .int .i64 xb, .int .i64 xc, .int .i64 xd, .int .u64 xm] 118))
        cases hbit : xm.testBit t with
        | false =>
          have hr := hrb false hbit
          have HM2 := Lib.hid (show m = countR (S.T.take (k + 1)) t by rw [HSN.out, hbit, ← HM.out]; rfl)
          clear hp hcl hfz hFq hqb hNN hrb hbit hbl
          go_wp2_with fail
          refine (HT.out _).mono ?_
          rintro e w2 ⟨rfl, rfl⟩
          go_wp2_with fail
          exact ⟨⟨k + 1, m, by go_num, rfl, hk, by omega, HM2.out, HB1.out⟩, by simp [intOf]; omega⟩
        | true =>
          have hr := hrb true hbit
          have HM2 := Lib.hid (show m + 1 = countR (S.T.take (k + 1)) t by rw [HSN.out, hbit, ← HM.out]; rfl)
          clear hp hcl hfz hFq hqb hNN hrb hbit hbl
          go_wp2_with fail
          refine (HT.out _).mono ?_
          rintro e w2 ⟨rfl, rfl⟩
          go_wp2_with fail
          exact ⟨⟨k + 1, m + 1, by go_num, by go_num, hk, by omega, HM2.out, HB1.out⟩, by simp [intOf]; omega⟩
      · have u1 : decide ((k : Int) < (N : Int)) = false := decide_eq_false (by omega)
        have u2 : decide (k < N) = false := decide_eq_false hk
        have hall : S.T.take k = S.T := List.take_of_length_le (by rw [← HN.out]; omega)
        have HM2 := Lib.hid (show m = cn by have := HM.out; rw [hall] at this; rw [this, HCN.out])
        have HBL := Lib.hid hbl
        clear hall hbl
        go_wp2_with fail
        go_ret
        exact ⟨by rw [← HM2.out]; rfl, HBL.out⟩
  · have HT := Lib.hid (person_out t ht)
    rw [tenB_out ht, if_neg (by decide)]
    go_enter Try.func76, Try.ntmps76
    go_wp2_with fail
    go_loopw [5, 7, 13] (fun nv _ iv ws => ∃ k : Nat, iv = .int .i64 k ∧ nv = .int .i64 0 ∧ k ≤ N ∧ Below w.heap.size w ws) (fun _ _ iv _ => N - (intOf iv).toNat)
    case atStart => exact ⟨0, rfl, rfl, Nat.zero_le _, Below.refl _ _⟩
    case round =>
      obtain ⟨k, rfl, rfl, hkN, hbl⟩ := hrel
      by_cases hk : k < N
      · obtain ⟨p, hp⟩ : ∃ p, S.T[k]? = some p := ⟨_, List.getElem?_eq_getElem (by rw [← HN.out]; exact hk)⟩
        obtain ⟨q, o, c', hv', hFq, hqb, hcl, hfz⟩ := (HH.out.below hbl).thing hp
        rw [HV.out] at hv'
        simp only [Value.slice.injEq] at hv'
        obtain ⟨rfl, hNN, rfl⟩ := hv'
        have c0 := hcl 0 (by omega)
        have c1 := hcl 1 (by omega)
        have c2 := hcl 2 (by omega)
        have c3 := hcl 3 (by omega)
        have c4 := hcl 4 (by omega)
        have c5 := hcl 5 (by omega)
        have c6 := hcl 6 (by omega)
        have c7 := hcl 7 (by omega)
        have c8 := hcl 8 (by omega)
        simp only [encTh, List.getElem?_cons_zero, List.getElem?_cons_succ, Nat.add_zero] at c0 c1 c2 c3 c4 c5 c6 c7 c8
        have u1 : decide ((k : Int) < (N : Int)) = true := decide_eq_true (by omega)
        have u2 : decide (k < N) = true := decide_eq_true hk
        obtain ⟨pi, px⟩ := p
        obtain ⟨xk, xa, xb, xc, xd, xl, xv, xm⟩ := px
        simp only at c0 c1 c2 c3 c4 c5 c6 c7 c8
        have HB1 := Lib.hid (hbl.alloc hbl.size (.cells #[.int .i64 pi, .int .i64 xk, .int .i64 xl, .int .i64 xv, .int .i64 xa, .int .i64 xb, .int .i64 xc, .int .i64 xd, .int .u64 xm] 118))
        clear hp hcl hfz hFq hqb hNN hbl
        go_wp2_with fail
        refine (HT.out _).mono ?_
        rintro e w2 ⟨rfl, rfl⟩
        go_wp2_with fail
        exact ⟨⟨k + 1, by go_num, rfl, hk, HB1.out⟩, by simp [intOf]; omega⟩
      · have u1 : decide ((k : Int) < (N : Int)) = false := decide_eq_false (by omega)
        have u2 : decide (k < N) = false := decide_eq_false hk
        have HBL := Lib.hid hbl
        clear hbl
        go_wp2_with fail
        go_ret
        exact ⟨rfl, HBL.out⟩
end Go.Proofs.Ytdmamecfmfhlmaa
namespace Go.Proofs.Ytdmamecfmfhlmaa
set_option maxRecDepth 100000
open Go.RowKit

theorem infoTh : (Try.prog.info? 118).map (fun i => (i.zero, i.size, i.bytes)) = some (some (.agg #[.int .i64 0, .int .i64 0, .int .i64 0, .int .i64 0, .int .i64 0, .int .i64 0, .int .i64 0, .int .i64 0, .int .u64 0]), 9, 72) := by kernel_rfl
/-- Another list of things is stored. -/
theorem ReAt.listed {b : Nat} {S : RSt} {arr : Array Value} {v1 v' : Value} {vs : List Value} {w : World} {F : Nat → Prop} {T' : List (Nat × Ent)} (h : ReAt b S arr v1 vs w F) (hr : Row w 118 9 v' T'.length (encTs T')) (hfew : T'.length ≤ 200000) :
    ReAt b { S with T := T' } (arr.setIfInBounds 1 v') v' vs (w.setCell ⟨b, 1, none⟩ v') (fun i => F i ∨ v'.ownBlock = some i) := by
  have hs := h.size
  have hb' : v'.ownBlock ≠ some b := hr.ne_type h.own (by decide)
  have oth : ∀ q, q ≠ b → (w.setCell ⟨b, 1, none⟩ v').heap[q]? = w.heap[q]? := fun q hq => Below.heap_setCell _ _ _ _ (by show q ≠ b; exact hq)
  refine ⟨Joins.block_setCell h.own _, by rw [Array.size_setIfInBounds]; exact hs, by rw [set_at (by omega)]; exact h.c0, set_same (by omega), fun t ht => by rw [set_at (by omega)]; exact h.c2 t ht, fun t ht => by rw [set_at (by omega)]; exact h.c3 t ht, hfew, hr.keep fun q hq => oth q (fun e => hb' (by rw [hq, e])), h.len, fun t v hv => (h.rows t v hv).keep fun q hq => oth q (fun e => (h.rows t v hv).ne_type h.own (by decide) (by rw [hq, e])), .inl h.fb, fun q hq => .inr hq, fun t v q hv hq => .inl (h.fv t v q hv hq), fun i hi => ?_, h.apart, h.qlen, h.slen⟩
  have e : (w.setCell ⟨b, 1, none⟩ v').heap.size = w.heap.size := by simp [World.setCell]
  rw [e]
  rcases hi with hi | hi
  · exact h.lt i hi
  · exact hr.lt i hi
def sweepR (S : RSt) : RSt := { S with T := S.T.filter fun p => decide (p.2.ma ≠ 0) }
/-- What stays of the first k things. -/
def stays (T : List (Nat × Ent)) (k : Nat) : List (Nat × Ent) := (T.take k).filter fun p => decide (p.2.ma ≠ 0)
theorem stays_snoc {T : List (Nat × Ent)} {k : Nat} {p : Nat × Ent} (hp : T[k]? = some p) : stays T (k + 1) = stays T k ++ if p.2.ma = 0 then [] else [p] := by
  unfold stays
  rw [List.take_add_one, hp, List.filter_append]
  by_cases h : p.2.ma = 0 <;> simp [h]
theorem stays_len (T : List (Nat × Ent)) (k : Nat) : (stays T k).length ≤ k := Nat.le_trans (List.length_filter_le _ _) (by rw [List.length_take]; omega)
structure StaySt (T : List (Nat × Ent)) (k B : Nat) (v : Value) (w : World) : Prop where
  row : Row w 118 9 v (stays T k).length (encTs (stays T k))
  new : ∀ q, v.ownBlock = some q → B ≤ q
set_option maxHeartbeats 4000000 in
set_option maxRecDepth 100000 in
theorem sweepR_any (b : Nat) (S : RSt) (arr : Array Value) (v1 : Value) (vs : List Value) (F : Nat → Prop) (w : World) (h : ReAt b S arr v1 vs w F) :
    Calls Try.prog 74 #[.pointer (some ⟨b, 0, none⟩)] w (Mut w F (IsRe b (sweepR S)) (.int .i64 ((S.T.length : Int) - (sweepR S).T.length))) := by
  obtain ⟨i0, hi, hz0, hz1, hz2⟩ := info_parts infoTh
  obtain ⟨a, c, hv, hc, hm, ha⟩ := h.list.form
  have d1 := (h.cell 1).trans h.c1
  have hfew := h.few
  have hbw := lt_of_block h.own
  obtain ⟨N, hN⟩ : ∃ N, N = S.T.length := ⟨_, rfl⟩
  rw [← hN] at hv hc hfew
  rw [hv] at d1
  have HH := Lib.hid h
  have HN := Lib.hid hN
  have HV := Lib.hid hv
  have HS0 : Aside (StaySt S.T 0 w.heap.size (.slice none 0 0) w) := ⟨Row.nil _ _ _, fun q hq => by simp [Value.ownBlock] at hq⟩
  clear h hv hN ha hc hm
  go_enter Try.func74, Try.ntmps74
  go_wp2_with fail
  go_loopw [3, 5, 12] (fun v _ iv ws => ∃ k : Nat, iv = .int .i64 k ∧ k ≤ N ∧ Aside (StaySt S.T k w.heap.size v ws) ∧ Below w.heap.size w ws) (fun _ _ iv _ => N - (intOf iv).toNat)
  case atStart => exact ⟨0, rfl, Nat.zero_le _, HS0, Below.refl _ _⟩
  case round =>
    obtain ⟨k, rfl, hkN, HR, hbl⟩ := hrel
    by_cases hk : k < N
    · obtain ⟨p, hp⟩ : ∃ p, S.T[k]? = some p := ⟨_, List.getElem?_eq_getElem (by rw [← HN.out]; exact hk)⟩
      obtain ⟨q, o, c', hv', hFq, hqb, hcl, hfz⟩ := (HH.out.below hbl).thing hp
      rw [HV.out] at hv'
      simp only [Value.slice.injEq] at hv'
      obtain ⟨rfl, hNN, rfl⟩ := hv'
      have c0 := hcl 0 (by omega)
      have c1 := hcl 1 (by omega)
      have c2 := hcl 2 (by omega)
      have c3 := hcl 3 (by omega)
      have c4 := hcl 4 (by omega)
      have c5 := hcl 5 (by omega)
      have c6 := hcl 6 (by omega)
      have c7 := hcl 7 (by omega)
      have c8 := hcl 8 (by omega)
      simp only [encTh, List.getElem?_cons_zero, List.getElem?_cons_succ, Nat.add_zero] at c0 c1 c2 c3 c4 c5 c6 c7 c8
      have u1 : decide ((k : Int) < (N : Int)) = true := decide_eq_true (by omega)
      have u2 : decide (k < N) = true := decide_eq_true hk
      have HSN := Lib.hid (stays_snoc hp)
      have HSL := Lib.hid (stays_len S.T k)
      have hep : encTs [p] = encTh p := by simp [encTs]
      have HEP := Lib.hid hep
      obtain ⟨p1, hp1⟩ : ∃ y, y = [p] := ⟨_, rfl⟩
      rw [← hp1] at HSN HEP
      have HP1 := Lib.hid (show p1.length = 1 by rw [hp1]; rfl)
      obtain ⟨pi, px⟩ := p
      obtain ⟨xk, xa, xb, xc, xd, xl, xv, xm⟩ := px
      simp only at c0 c1 c2 c3 c4 c5 c6 c7 c8 HSN
      rw [show encTh (pi, ⟨xk, xa, xb, xc, xd, xl, xv, xm⟩) = [.int .i64 pi, .int .i64 xk, .int .i64 xl, .int .i64 xv, .int .i64 xa, .int .i64 xb, .int .i64 xc, .int .i64 xd, .int .u64 xm] from rfl] at HEP
      obtain ⟨X, hX⟩ : ∃ X, X = wr.alloc (.cells #[.int .i64 pi, .int .i64 xk, .int .i64 xl, .int .i64 xv, .int .i64 xa, .int .i64 xb, .int .i64 xc, .int .i64 xd, .int .u64 xm] 118 (0, 0)) := ⟨_, rfl⟩
      have hbX : Below wr.heap.size wr X := by rw [hX]; exact (Below.refl _ _).alloc (Nat.le_refl _) _
      have hX0 : X.heap[wr.heap.size]? = some (.cells #[.int .i64 pi, .int .i64 xk, .int .i64 xl, .int .i64 xv, .int .i64 xa, .int .i64 xb, .int .i64 xc, .int .i64 xd, .int .u64 xm] 118 (0, 0)) := by rw [hX]; exact blk_last wr _ rfl
      have HSX : Aside (StaySt S.T k w.heap.size _ X) := ⟨HR.out.row.keep fun q hq => hbX.block q (HR.out.row.lt q hq), HR.out.new⟩
      have HB1 := Lib.hid (hbl.trans (hbX.mono hbl.size))
      have HXE := Lib.hid hX
      clear hp hcl hfz hFq hqb hNN hbl hep hp1 hbX hX
      by_cases hm : xm = 0
      · have g1 : ((xm : Int) != 0) = false := by simp; omega
        have g2 : (xm != 0) = false := by simpa using hm
        have g3 : (xm == 0) = true := by simpa using hm
        have HNX : Aside (StaySt S.T (k + 1) w.heap.size _ X) := ⟨by rw [HSN.out, if_pos hm, List.append_nil]; exact HSX.out.row, HSX.out.new⟩
        have f8 := Joins.cell_of_block hX0 8
        simp at f8
        clear hm hX0
        go_upto_region 5 with fail
        rw [← HXE.out]
        go_wp2_with fail
        exact ⟨⟨k + 1, by go_num, hk, HNX, HB1.out⟩, by simp [intOf]; omega⟩
      · have g1 : ((xm : Int) != 0) = true := by simp; omega
        have g2 : (xm != 0) = true := by simpa using hm
        have g3 : (xm == 0) = false := by simpa using hm
        have f0 := Joins.cell_of_block hX0 0
        have f1 := Joins.cell_of_block hX0 1
        have f2 := Joins.cell_of_block hX0 2
        have f3 := Joins.cell_of_block hX0 3
        have f4 := Joins.cell_of_block hX0 4
        have f5 := Joins.cell_of_block hX0 5
        have f6 := Joins.cell_of_block hX0 6
        have f7 := Joins.cell_of_block hX0 7
        have f8 := Joins.cell_of_block hX0 8
        simp at f0 f1 f2 f3 f4 f5 f6 f7 f8
        have HSN2 := Lib.hid (show stays S.T (k + 1) = stays S.T k ++ p1 by rw [HSN.out, if_neg hm])
        obtain ⟨a3, c3', hv3, -⟩ := HSX.out.row.form
        obtain ⟨n3, hn3⟩ : ∃ n, n = (stays S.T k).length := ⟨_, rfl⟩
        have hrow := HSX.out.row
        rw [hv3, ← hn3] at hrow
        have hn3b : n3 ≤ 200002 := by rw [hn3]; exact Nat.le_trans HSL.out (by omega)
        rw [← hn3] at hv3
        have HN3 := Lib.hid hn3
        have hrow7 : Row (X.alloc (.cells #[.int .i64 pi, .int .i64 xk, .int .i64 xl, .int .i64 xv, .int .i64 xa, .int .i64 xb, .int .i64 xc, .int .i64 xd, .int .u64 xm] 118 (0, 0))) 118 9 (.slice a3 n3 c3') n3 (encTs (stays S.T k)) := hrow.keep fun q hq => Below.heap_alloc X _ q (hrow.lt q hq)
        have HR7 := Lib.hid hrow7
        have M3 := Lib.hid (show n3 + 1 ≤ maxLen by unfold maxLen; omega)
        have M4 := Lib.hid (show (n3 + 1) * 72 ≤ 140737488355328 by omega)
        rw [hv3]
        have HV3 := Lib.hid hv3
        clear hrow hrow7 hn3 hv3 hm hX0
        go_upto_region 5 with fail
        rw [← HXE.out]
        go_wp2_with ((at_builtin; go_loud (refine wpList_append_row _ rfl (.tmp 19) (.tmp 21) 65 rfl 118 i0 _ 9 72 Try.underlying65 hi hz0 hz1 hz2 rfl (by omega) (.slice a3 n3 c3') n3 (encTs (stays S.T k)) rfl HR7.out ⟨X.heap.size, 0, none⟩ 1 1 [.int .i64 pi, .int .i64 xk, .int .i64 xl, .int .i64 xv, .int .i64 xa, .int .i64 xb, .int .i64 xc, .int .i64 xd, .int .u64 xm] rfl rfl (news_alloc X _ _ rfl) (by simp [Value.oneCell']) (by omega) M3.out M4.out _ rfl ?_; intro g6 off cap w6 hrow hg hat)))
        have hnew := HSX.out.new
        rw [HV3.out] at hnew
        have hwX := HB1.out.size
        have hg6 : w.heap.size ≤ g6 := by
          rcases hat with e | e
          · exact hnew g6 e
          · rw [e]; simp; omega
        refine ⟨⟨k + 1, by go_num, hk, ⟨?_, fun q hq => ?_⟩, ?_⟩, by simp [intOf]; omega⟩
        · rw [HSN2.out, List.length_append, HP1.out, ← HN3.out, show encTs (stays S.T k ++ p1) = encTs (stays S.T k) ++ encTs p1 from List.flatMap_append, HEP.out]
          exact hrow
        · obtain rfl : g6 = q := by simpa [Value.ownBlock] using hq
          exact hg6
        · have h8 := HB1.out.alloc hwX (.cells #[.int .i64 pi, .int .i64 xk, .int .i64 xl, .int .i64 xv, .int .i64 xa, .int .i64 xb, .int .i64 xc, .int .i64 xd, .int .u64 xm] 118 (0, 0))
          exact h8.trans ((Keeps.grown (F := fun q => w.heap.size ≤ q) (Keeps.refl _ _) hg fun q hq _ => hnew q hq).toBelow (fun _ h => h) h8.size)
    · have u1 : decide ((k : Int) < (N : Int)) = false := decide_eq_false (by omega)
      have u2 : decide (k < N) = false := decide_eq_false hk
      have hall : stays S.T k = (sweepR S).T := by
        unfold stays sweepR
        rw [List.take_of_length_le (by rw [← HN.out]; omega)]
      have hrow := HR.out.row
      have hnew := HR.out.new
      rw [hall] at hrow
      have hA := HH.out.below hbl
      obtain ⟨a3, c3', rfl, -⟩ := HR.out.row.form
      rw [hall] at hrow hnew ⊢
      have hle : (sweepR S).T.length ≤ N := by rw [← hall]; exact Nat.le_trans (stays_len _ _) (by omega)
      have hL := hA.listed hrow (by omega)
      obtain ⟨n3, hn3⟩ : ∃ n, n = (sweepR S).T.length := ⟨_, rfl⟩
      rw [← hn3] at hL hnew hle ⊢
      have e1 := (hA.cell 1).trans hA.c1
      rw [HV.out] at e1
      have ef := Joins.unfrozen_of_block hA.own
      have HL := Lib.hid hL
      have HNW := Lib.hid hnew
      have HN3 := Lib.hid hn3
      have HBL := Lib.hid hbl
      have hFB := hA.fb
      have HFB := Lib.hid hFB
      clear hrow hnew hA hL hn3 hbl hall hFB
      go_wp2_with fail
      go_ret
      refine ⟨by rw [HN3.out, HN.out]; rfl, _, ⟨_, _, _, HL.out⟩, fun i hi => ?_, ?_⟩
      · rcases hi with hi | hi
        · exact .inl hi
        · exact .inr (HNW.out i hi)
      · exact (Keeps.of_below (F := F) HBL.out).setCell (p := ⟨b, 1, none⟩) (fun _ => HFB.out) _
end Go.Proofs.Ytdmamecfmfhlmaa
