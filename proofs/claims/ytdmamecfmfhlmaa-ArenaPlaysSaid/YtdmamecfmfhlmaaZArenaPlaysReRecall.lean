/-
  ref.Store's Recall.
-/
import Derived.Test.YtdmamecfmfhlmaaZArenaPlays29
namespace Go.Proofs.Ytdmamecfmfhlmaa
set_option maxRecDepth 100000
open Go.RowKit

/-- What was noted for a tenant. -/
def isNote (t : Nat) (sq rule j : Int) (p : Nat × Ent) : Bool := decide (p.2.k = 1) && decide (p.2.a = sq ∧ p.2.b = rule ∧ p.2.c = j ∧ p.2.d = 0) && p.2.ma.testBit t
def recallR (S : RSt) (t sq rule j : Int) : Int × Bool := if tenB t = true then (match S.T.find? (isNote t.toNat sq rule j) with
  | some p => (p.2.va, true)
  | none => (0, false)) else (0, false)
set_option maxHeartbeats 2000000 in
theorem recallR_in (b : Nat) (S : RSt) (arr : Array Value) (v1 : Value) (vs : List Value) (F : Nat → Prop) (t : Nat) (ht : t < 64) (sq rule j : Int) (w : World) (h : ReAt b S arr v1 vs w F) (hgd : ∀ p ∈ S.T, GoodE p.2) (hq1 : I64 sq) (hq2 : I64 rule) (hq3 : I64 j) :
    Calls Try.prog 64 #[.pointer (some ⟨b, 0, none⟩), .int .i64 t, .int .i64 sq, .int .i64 rule, .int .i64 j] w fun e w' => e = .returned (.tuple #[.int .i64 (recallR S t sq rule j).1, .bool (recallR S t sq rule j).2]) ∧ Below w.heap.size w w' := by
  obtain ⟨a, c, hv, hc, hm, ha⟩ := h.list.form
  have d1 := (h.cell 1).trans h.c1
  have hfew := h.few
  obtain ⟨N, hN⟩ : ∃ N, N = S.T.length := ⟨_, rfl⟩
  rw [← hN] at hv hc hfew
  rw [hv] at d1
  have HH := Lib.hid h
  have HN := Lib.hid hN
  have HV := Lib.hid hv
  clear h hv hN ha hc hm
  have HT := Lib.hid (person_in t ht)
  have HGD := Lib.hid hgd
  have HQ := Lib.hid (show I64 sq ∧ I64 rule ∧ I64 j ∧ I64 0 from ⟨hq1, hq2, hq3, by unfold I64; omega⟩)
  clear hgd hq1 hq2 hq3
  have ht0 : (0 : Int) ≤ t := by omega
  have htI : (t : Int) < 64 := by omega
  obtain ⟨ans, hans⟩ : ∃ a, a = recallR S t sq rule j := ⟨_, rfl⟩
  rw [← hans]
  unfold recallR at hans
  rw [tenB_in ht, if_pos rfl, Int.toNat_natCast] at hans
  have HANS := Lib.hid hans
  clear hans
  go_enter Try.func64, Try.ntmps64
  go_wp2_with fail
  go_loopw [13, 19] (fun _ iv ws => ∃ k : Nat, iv = .int .i64 k ∧ k ≤ N ∧ Aside ((S.T.take k).find? (isNote t sq rule j) = none) ∧ Below w.heap.size w ws) (fun _ iv _ => N - (intOf iv).toNat)
  case atStart => exact ⟨0, rfl, Nat.zero_le _, (show (S.T.take 0).find? (isNote t sq rule j) = none from rfl), Below.refl _ _⟩
  case round =>
    obtain ⟨k, rfl, hkN, HM, hbl⟩ := hrel
    by_cases hk : k < N
    · obtain ⟨p, hp⟩ : ∃ p, S.T[k]? = some p := ⟨_, List.getElem?_eq_getElem (by rw [← HN.out]; exact hk)⟩
      obtain ⟨q, o, c', hv', hFq, hqb, hcl, hfz⟩ := (HH.out.below hbl).thing hp
      rw [HV.out] at hv'
      simp only [Value.slice.injEq] at hv'
      obtain ⟨rfl, hNN, rfl⟩ := hv'
      have c0 := hcl 0 (by omega)
      have c1 := hcl 1 (by omega)
      have c2 := hcl 2 (by omega)
      have c3 := hcl 3 (by omega)
      have c4 := hcl 4 (by omega)
      have c5 := hcl 5 (by omega)
      have c6 := hcl 6 (by omega)
      have c7 := hcl 7 (by omega)
      have c8 := hcl 8 (by omega)
      simp only [encTh, List.getElem?_cons_zero, List.getElem?_cons_succ, Nat.add_zero] at c0 c1 c2 c3 c4 c5 c6 c7 c8
      have u1 : decide ((k : Int) < (N : Int)) = true := decide_eq_true (by omega)
      have u2 : decide (k < N) = true := decide_eq_true hk
      have HNO := Lib.hid (fun (e : isNote t sq rule j p = false) => show (S.T.take (k + 1)).find? (isNote t sq rule j) = none by rw [List.take_add_one, hp, List.find?_append, HM.out]; simp [e])
      have HYES := Lib.hid (fun (e : isNote t sq rule j p = true) => show S.T.find? (isNote t sq rule j) = some p by
        have hsp : S.T = S.T.take k ++ p :: S.T.drop (k + 1) := by
          obtain ⟨hk', e'⟩ := List.getElem?_eq_some_iff.1 hp
          exact (List.take_append_drop k S.T).symm.trans (by rw [List.drop_eq_getElem_cons hk', e'])
        rw [hsp, List.find?_append, HM.out]
        simp [e])
      have hrb := fun b hb => rem_one (m := p.2.ma) (t := t) b hb
      obtain ⟨pi, px⟩ := p
      obtain ⟨xk, xa, xb, xc, xd, xl, xv, xm⟩ := px
      simp only at c0 c1 c2 c3 c4 c5 c6 c7 c8 hrb HNO HYES
      have HB1 := Lib.hid (hbl.alloc hbl.size (.cells #[.int .i64 pi, .int .i64 xk, .int .i64 xl, .int .i64 xv, .int .i64 xa, .int .i64 xb, .int .i64 xc, .int .i64 xd, .int .u64 xm] 118))
      have hgp := (HGD.out _ (List.mem_of_getElem? hp)).1
      have heq := fun W => eq4 xa xb xc xd sq rule j 0 ⟨hgp.2.1, hgp.2.2.1, hgp.2.2.2.1, hgp.2.2.2.2⟩ HQ.out W
      clear hp hcl hfz hFq hqb hNN hbl hgp
      by_cases hk1 : xk = 1
      · have g1 : (xk == 1) = true := by simpa using hk1
        by_cases hA : xa = sq ∧ xb = rule ∧ xc = j ∧ xd = 0
        · rw [decide_eq_true hA] at heq
          cases hbit : xm.testBit t with
          | false =>
            have hr := hrb false hbit
            have HN2 := Lib.hid (HNO.out (by unfold isNote; simp [hbit]))
            clear hrb hbit hA hk1
            go_wp2_with fail
            refine (HT.out _).mono ?_
            rintro e w2 ⟨rfl, rfl⟩
            go_wp2_with fail
            exact ⟨⟨k + 1, by go_num, hk, HN2.out, HB1.out⟩, by simp [intOf]; omega⟩
          | true =>
            have hr := hrb true hbit
            have HY2 := Lib.hid (HYES.out (by unfold isNote; simp only [hbit, decide_eq_true hk1, decide_eq_true hA]; rfl))
            have HA2 := HANS.out
            rw [HY2.out] at HA2
            simp only at HA2
            have HA3 := Lib.hid HA2
            clear hrb hbit hA hk1 HA2
            go_wp2_with fail
            refine (HT.out _).mono ?_
            rintro e w2 ⟨rfl, rfl⟩
            go_wp2_with fail
            refine bodyPost_ret ?_ rfl ⟨rfl, HB1.out⟩
            rw [HA3.out]
            simp [results, Try.results64, go_sem]
        · rw [decide_eq_false hA] at heq
          have HN2 := Lib.hid (HNO.out (by unfold isNote; simp only [decide_eq_false hA, Bool.and_false, Bool.false_and]))
          clear hrb hA hk1
          go_wp2_with fail
          refine (HT.out _).mono ?_
          rintro e w2 ⟨rfl, rfl⟩
          go_wp2_with fail
          exact ⟨⟨k + 1, by go_num, hk, HN2.out, HB1.out⟩, by simp [intOf]; omega⟩
      · have g1 : (xk == 1) = false := by simpa using hk1
        have HN2 := Lib.hid (HNO.out (by unfold isNote; simp only [decide_eq_false hk1, Bool.false_and]))
        clear hrb hk1
        go_wp2_with fail
        refine (HT.out _).mono ?_
        rintro e w2 ⟨rfl, rfl⟩
        go_wp2_with fail
        exact ⟨⟨k + 1, by go_num, hk, HN2.out, HB1.out⟩, by simp [intOf]; omega⟩
    · have u1 : decide ((k : Int) < (N : Int)) = false := decide_eq_false (by omega)
      have u2 : decide (k < N) = false := decide_eq_false hk
      have hall : S.T.take k = S.T := List.take_of_length_le (by rw [← HN.out]; omega)
      have HA2 := HANS.out
      have HM2 := HM.out
      rw [hall] at HM2
      rw [HM2] at HA2
      simp only at HA2
      have HA3 := Lib.hid HA2
      have HBL := Lib.hid hbl
      clear hall HA2 HM2 hbl
      go_wp2_with fail
      refine bodyPost_ret ?_ rfl ⟨rfl, HBL.out⟩
      rw [HA3.out]
      simp [results, Try.results64, go_sem]
set_option maxHeartbeats 2000000 in
theorem recallR_out (b : Nat) (S : RSt) (arr : Array Value) (v1 : Value) (vs : List Value) (F : Nat → Prop) (t : Int) (ht : t < 0 ∨ 64 ≤ t) (sq rule j : Int) (w : World) (h : ReAt b S arr v1 vs w F) :
    Calls Try.prog 64 #[.pointer (some ⟨b, 0, none⟩), .int .i64 t, .int .i64 sq, .int .i64 rule, .int .i64 j] w fun e w' => e = .returned (.tuple #[.int .i64 0, .bool false]) ∧ Below w.heap.size w w' := by
  obtain ⟨a, c, hv, hc, hm, ha⟩ := h.list.form
  have d1 := (h.cell 1).trans h.c1
  have hfew := h.few
  obtain ⟨N, hN⟩ : ∃ N, N = S.T.length := ⟨_, rfl⟩
  rw [← hN] at hv hc hfew
  rw [hv] at d1
  have HH := Lib.hid h
  have HN := Lib.hid hN
  have HV := Lib.hid hv
  clear h hv hN ha hc hm
  have HT := Lib.hid (person_out t ht)
  go_enter Try.func64, Try.ntmps64
  go_wp2_with fail
  go_loopw [13, 19] (fun _ iv ws => ∃ k : Nat, iv = .int .i64 k ∧ k ≤ N ∧ Below w.heap.size w ws) (fun _ iv _ => N - (intOf iv).toNat)
  case atStart => exact ⟨0, rfl, Nat.zero_le _, Below.refl _ _⟩
  case round =>
    obtain ⟨k, rfl, hkN, hbl⟩ := hrel
    by_cases hk : k < N
    · obtain ⟨p, hp⟩ : ∃ p, S.T[k]? = some p := ⟨_, List.getElem?_eq_getElem (by rw [← HN.out]; exact hk)⟩
      obtain ⟨q, o, c', hv', hFq, hqb, hcl, hfz⟩ := (HH.out.below hbl).thing hp
      rw [HV.out] at hv'
      simp only [Value.slice.injEq] at hv'
      obtain ⟨rfl, hNN, rfl⟩ := hv'
      have c0 := hcl 0 (by omega)
      have c1 := hcl 1 (by omega)
      have c2 := hcl 2 (by omega)
      have c3 := hcl 3 (by omega)
      have c4 := hcl 4 (by omega)
      have c5 := hcl 5 (by omega)
      have c6 := hcl 6 (by omega)
      have c7 := hcl 7 (by omega)
      have c8 := hcl 8 (by omega)
      simp only [encTh, List.getElem?_cons_zero, List.getElem?_cons_succ, Nat.add_zero] at c0 c1 c2 c3 c4 c5 c6 c7 c8
      have u1 : decide ((k : Int) < (N : Int)) = true := decide_eq_true (by omega)
      have u2 : decide (k < N) = true := decide_eq_true hk
      obtain ⟨pi, px⟩ := p
      obtain ⟨xk, xa, xb, xc, xd, xl, xv, xm⟩ := px
      simp only at c0 c1 c2 c3 c4 c5 c6 c7 c8
      have HB1 := Lib.hid (hbl.alloc hbl.size (.cells #[.int .i64 pi, .int .i64 xk, .int .i64 xl, .int .i64 xv, .int .i64 xa, .int .i64 xb, .int .i64 xc, .int .i64 xd, .int .u64 xm] 118))
      clear hp hcl hfz hFq hqb hNN hbl
      go_wp2_with fail
      refine (HT.out _).mono ?_
      rintro e w2 ⟨rfl, rfl⟩
      go_wp2_with fail
      exact ⟨⟨k + 1, by go_num, hk, HB1.out⟩, by simp [intOf]; omega⟩
    · have u1 : decide ((k : Int) < (N : Int)) = false := decide_eq_false (by omega)
      have u2 : decide (k < N) = false := decide_eq_false hk
      have HBL := Lib.hid hbl
      clear hbl
      go_wp2_with fail
      refine bodyPost_ret ?_ rfl ⟨rfl, HBL.out⟩
      simp [results, Try.results64, go_sem]
end Go.Proofs.Ytdmamecfmfhlmaa
