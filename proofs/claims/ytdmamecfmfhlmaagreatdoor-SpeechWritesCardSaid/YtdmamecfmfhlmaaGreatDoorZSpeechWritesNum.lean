/-
  The program's number.
-/
import Derived.Test.YtdmamecfmfhlmaaGreatDoorZSpeechWritesAtois
import Derived.Test.YtdmamecfmfhlmaaGreatDoorSpeechNames
namespace Go.Proofs.YtdmamecfmfhlmaaGreatDoor
set_option maxRecDepth 100000
open Go.RowKit

/-- What number answers. -/
def numA (l : List UInt8) : Value := .tuple #[.int .i64 (if okS l = true then valS l else 0), .bool (okS l)]
theorem numA_no {l : List UInt8} (h : okS l = false) : numA l = .tuple #[.int .i64 0, .bool false] := by rw [numA, h]; rfl
theorem numA_yes {l : List UInt8} (h : okS l = true) : numA l = .tuple #[.int .i64 (valS l), .bool true] := by rw [numA, h]; rfl
theorem okS_dig {l : List UInt8} (h : (bare l).all digC = false) : okS l = false := by
  unfold okS okT
  rw [h, Bool.and_false]
theorem okS_nil {l : List UInt8} (h : bare l = []) : okS l = false := by
  unfold okS okT
  rw [h]; rfl
theorem okS_long {l : List UInt8} (h : 18 < (bare l).length) : okS l = false := by
  unfold okS okT
  rw [decide_eq_false (show ¬ (bare l).length ≤ 18 by omega)]
  simp
theorem okS_nought {l : List UInt8} (h : 1 < (bare l).length) (h2 : (bare l).head? = some 48) : okS l = false := by
  unfold okS okT
  rw [decide_eq_false (show ¬ (bare l).length ≤ 1 by omega), decide_eq_false (show ¬ (bare l).head? ≠ some 48 from fun e => e h2)]
  simp
theorem okS_minus : okS [45, 48] = false := by decide
theorem okS_rest {l : List UInt8} (h1 : bare l ≠ []) (h2 : (bare l).length ≤ 18) (h3 : (bare l).length ≤ 1 ∨ (bare l).head? ≠ some 48) (h4 : l ≠ [45, 48]) (h5 : (bare l).all digC = true) : okS l = true := by
  unfold okS okT
  rw [decide_eq_true h1, decide_eq_true h2, h5]
  have e3 : (decide ((bare l).length ≤ 1) || decide ((bare l).head? ≠ some 48)) = true := by
    rcases h3 with h | h
    · rw [decide_eq_true h]; rfl
    · rw [decide_eq_true h, Bool.or_true]
  have e4 : (minus l && decide (bare l = [48])) = false := by
    cases hm : minus l with
    | false => rfl
    | true =>
      rw [Bool.true_and]
      apply decide_eq_false
      intro e
      apply h4
      unfold bare at e
      rw [if_pos hm] at e
      cases l with
      | nil => simp at e
      | cons c r =>
        rw [minus_cons] at hm
        have hc : c = 45 := UInt8.toNat_inj.1 (of_decide_eq_true hm)
        rw [List.tail_cons] at e
        rw [hc, e]
  rw [e3, e4]; rfl
theorem threeD (n : Nat) : n < 48 ∨ (48 ≤ n ∧ 57 < n) ∨ (48 ≤ n ∧ n ≤ 57) := by omega
set_option maxHeartbeats 4000000 in
set_option maxRecDepth 100000 in
theorem number_any (l : List UInt8) (w : World) (hl : l.length ≤ 140737488351232) :
    Calls Tryz.prog 41 #[.string (txt l)] w fun e w' => e = .returned (numA l) ∧ Below w.heap.size w w' := by
  have HT := Lib.hid (trimMinus_any l)
  have HA := Lib.hid (fun (w : World) (h : okS l = true) => atoi_any l w h)
  have HLL := Lib.hid hl
  obtain ⟨S, hS⟩ : ∃ S, S = txt l := ⟨_, rfl⟩
  obtain ⟨T, hT⟩ : ∃ T, T = txt (bare l) := ⟨_, rfl⟩
  obtain ⟨n, hn⟩ : ∃ n, n = (bare l).length := ⟨_, rfl⟩
  have hsz : T.size = n := by rw [hT, hn, txt_size]
  have HS := Lib.hid hS
  have HTE := Lib.hid hT
  have HN := Lib.hid hn
  rw [← hS, ← hT] at HT
  rw [← hS] at HA
  rw [← hS]
  obtain ⟨R, hR⟩ : ∃ R, R = numA l := ⟨_, rfl⟩
  have HR := Lib.hid hR
  rw [← hR]
  have htn : T.toList.isEmpty = decide (n = 0) := by
    rw [hT, txt_toList, hn]
    cases bare l <;> simp
  have hTl : T.toList = bare l := by rw [hT, txt_toList]
  have hSl : S.toList = l := by rw [hS, txt_toList]
  have HTl := Lib.hid hTl
  have HSl := Lib.hid hSl
  have HNO : Hid (okS l = false → R = .tuple #[.int .i64 0, .bool false]) := Lib.hid fun h => by rw [HR.out, numA_no h]
  clear hS hT hn hR hl hTl hSl
  go_enter Tryz.func41, Tryz.ntmps41
  go_wp2_with fail
  refine (HT.out _).mono ?_
  rintro e w' ⟨rfl, rfl⟩
  have hbb : ∀ k, k < n → ∃ h : k < T.size, (bare l)[k]? = some T[k] := fun k hk => by
    have h := HTE.out
    have hk2 : k < (bare l).length := by rw [← HN.out]; exact hk
    refine ⟨by omega, ?_⟩
    subst h
    rw [List.getElem?_eq_getElem hk2]
    rfl
  have HBB := Lib.hid hbb
  clear hbb
  have hn18 : n = 0 ∨ 18 < n ∨ n = 1 ∨ (2 ≤ n ∧ n ≤ 18) := by omega
  rcases hn18 with h0 | h18 | h1 | ⟨h2, h3⟩
  · have hno : okS l = false := okS_nil (List.length_eq_zero_iff.mp (by rw [← HN.out]; exact h0))
    have hr := HNO.out hno
    subst hr
    have he : T.toList = [] := List.length_eq_zero_iff.mp (by rw [HTl.out, ← HN.out]; exact h0)
    clear HNO hno
    go_wp2_with fail
    all_goals
      go_ret2
      exact ⟨rfl, Below.refl _ _⟩
  · have hno : okS l = false := okS_long (by rw [← HN.out]; exact h18)
    have hr := HNO.out hno
    subst hr
    have he : ¬ T.toList = [] := fun e => by
      have := congrArg List.length e
      rw [HTl.out, ← HN.out, List.length_nil] at this
      omega
    have h18i : (n : Int) > 18 := by omega
    clear HNO hno
    go_wp2_with fail
    all_goals
      go_ret2
      exact ⟨rfl, Below.refl _ _⟩
  · have hn1 : ¬ (n : Int) > 1 := by omega
    have hn18 : ¬ (n : Int) > 18 := by omega
    have he : ¬ T.toList = [] := fun e => by
      have := congrArg List.length e
      rw [HTl.out, ← HN.out, List.length_nil] at this
      omega
    have hbe : (T.toList == []) = false := by simpa using he
    by_cases h45 : l = [45, 48]
    · have hno : okS l = false := by rw [h45]; exact okS_minus
      have hr := HNO.out hno
      subst hr
      have h45' : S.toList = [45, 48] := by rw [HSl.out]; exact h45
      have hb45 : (S.toList == [45, 48]) = true := by rw [h45']; rfl
      clear HNO hno h45
      go_wp2_with fail
      all_goals
        go_ret2
        exact ⟨rfl, Below.refl _ _⟩
    · have h45' : ¬ S.toList = [45, 48] := by rw [HSl.out]; exact h45
      have hb45 : (S.toList == [45, 48]) = false := by simpa using h45'
      have H45 := Lib.hid h45
      have H3 : Hid ((bare l).length ≤ 1 ∨ (bare l).head? ≠ some 48) := Lib.hid (.inl (by rw [← HN.out]; omega))
      clear h45
      go_wp2_with fail
      go_loop [5] (fun i => ∃ k : Nat, k ≤ n ∧ i = .int .i64 k ∧ ((bare l).take k).all digC = true) (fun i => n - (intOf i).toNat)
      case atStart => exact ⟨0, Nat.zero_le _, rfl, rfl⟩
      case round =>
        obtain ⟨k, hk, rfl, hI⟩ := hrel
        have HI := Lib.hid hI
        clear hI
        by_cases hlt : k < n
        · obtain ⟨hks, hkb⟩ := HBB.out k hlt
          have HKB := Lib.hid hkb
          clear hkb
          rcases threeD T[k].toNat with c | ⟨c1, c⟩ | ⟨c1, c2⟩
          · have hb : (bare l).all digC = false := by
              rw [List.all_eq_false]
              exact ⟨_, List.mem_of_getElem? HKB.out, by simp [digC]; omega⟩
            have hr := HNO.out (okS_dig hb)
            subst hr
            clear hb
            go_wp2_with fail
            go_ret2
            exact ⟨rfl, Below.refl _ _⟩
          · have hb : (bare l).all digC = false := by
              rw [List.all_eq_false]
              exact ⟨_, List.mem_of_getElem? HKB.out, by simp [digC]; omega⟩
            have hr := HNO.out (okS_dig hb)
            subst hr
            clear hb
            go_wp2_with fail
            go_ret2
            exact ⟨rfl, Below.refl _ _⟩
          · have hb : ((bare l).take (k + 1)).all digC = true := by
              rw [List.take_add_one, HKB.out, List.all_append, HI.out]
              simp [digC]; omega
            have HB := Lib.hid hb
            clear hb
            go_wp2_with fail
            go_round
            case rel => exact ⟨k + 1, by omega, by go_num, HB.out⟩
            case measure => simp [intOf]; omega
        · obtain rfl : k = n := by omega
          have ha := HI.out
          rw [HN.out, List.take_length] at ha
          have hyes : okS l = true := okS_rest (fun e => by have := congrArg List.length e; rw [← HN.out, List.length_nil] at this; omega) (by rw [← HN.out]; omega) H3.out H45.out ha
          have hA := Lib.hid (HA.out w' hyes)
          have hr : R = .tuple #[.int .i64 (valS l), .bool true] := by rw [HR.out, numA_yes hyes]
          obtain ⟨V, hV⟩ : ∃ V, V = valS l := ⟨_, rfl⟩
          rw [← hV] at hA hr
          subst hr
          clear ha hyes hV HA HNO HR
          go_wp2_with fail
          refine hA.out.mono ?_
          rintro e w9 ⟨rfl, hb9⟩
          have HB9 := Lib.hid hb9
          clear hb9
          go_wp2_with fail
          go_quiet (fail)
          go_wp2_with fail
          go_ret2
          exact ⟨rfl, HB9.out.trans (Joins.below_draws _ _ _)⟩
  · have hn1 : (n : Int) > 1 := by omega
    have hn18 : ¬ (n : Int) > 18 := by omega
    have he : ¬ T.toList = [] := fun e => by
      have := congrArg List.length e
      rw [HTl.out, ← HN.out, List.length_nil] at this
      omega
    have hbe : (T.toList == []) = false := by simpa using he
    obtain ⟨h0s, h0b⟩ := HBB.out 0 (by omega)
    have H0B := Lib.hid h0b
    clear h0b
    by_cases h48 : T[0].toNat = 48
    · have hno : okS l = false := okS_nought (by rw [← HN.out]; omega) (by
        rw [List.head?_eq_getElem?, H0B.out]
        congr 1
        exact UInt8.toNat_inj.1 h48)
      have hr := HNO.out hno
      subst hr
      clear HNO hno
      go_wp2_with fail
      all_goals
        go_ret2
        exact ⟨rfl, Below.refl _ _⟩
    · have H3 : Hid ((bare l).length ≤ 1 ∨ (bare l).head? ≠ some 48) := Lib.hid (.inr (by
        rw [List.head?_eq_getElem?, H0B.out]
        intro e
        exact h48 (by rw [Option.some.inj e]; rfl)))
      have h45 : ¬ l = [45, 48] := fun e => by
        have hn := HN.out
        rw [e, show bare [45, 48] = [48] by decide] at hn
        simp at hn
        omega
      have h45' : ¬ S.toList = [45, 48] := by rw [HSl.out]; exact h45
      have hb45 : (S.toList == [45, 48]) = false := by simpa using h45'
      have H45 := Lib.hid h45
      have h48i : ((T[0].toNat : Int) == 48) = false := by simp; omega
      clear h45
      go_wp2_with fail
      go_loop [5] (fun i => ∃ k : Nat, k ≤ n ∧ i = .int .i64 k ∧ ((bare l).take k).all digC = true) (fun i => n - (intOf i).toNat)
      case atStart => exact ⟨0, Nat.zero_le _, rfl, rfl⟩
      case round =>
        obtain ⟨k, hk, rfl, hI⟩ := hrel
        have HI := Lib.hid hI
        clear hI
        by_cases hlt : k < n
        · obtain ⟨hks, hkb⟩ := HBB.out k hlt
          have HKB := Lib.hid hkb
          clear hkb
          rcases threeD T[k].toNat with c | ⟨c1, c⟩ | ⟨c1, c2⟩
          · have hb : (bare l).all digC = false := by
              rw [List.all_eq_false]
              exact ⟨_, List.mem_of_getElem? HKB.out, by simp [digC]; omega⟩
            have hr := HNO.out (okS_dig hb)
            subst hr
            clear hb
            go_wp2_with fail
            go_ret2
            exact ⟨rfl, Below.refl _ _⟩
          · have hb : (bare l).all digC = false := by
              rw [List.all_eq_false]
              exact ⟨_, List.mem_of_getElem? HKB.out, by simp [digC]; omega⟩
            have hr := HNO.out (okS_dig hb)
            subst hr
            clear hb
            go_wp2_with fail
            go_ret2
            exact ⟨rfl, Below.refl _ _⟩
          · have hb : ((bare l).take (k + 1)).all digC = true := by
              rw [List.take_add_one, HKB.out, List.all_append, HI.out]
              simp [digC]; omega
            have HB := Lib.hid hb
            clear hb
            go_wp2_with fail
            go_round
            case rel => exact ⟨k + 1, by omega, by go_num, HB.out⟩
            case measure => simp [intOf]; omega
        · obtain rfl : k = n := by omega
          have ha := HI.out
          rw [HN.out, List.take_length] at ha
          have hyes : okS l = true := okS_rest (fun e => by have := congrArg List.length e; rw [← HN.out, List.length_nil] at this; omega) (by rw [← HN.out]; omega) H3.out H45.out ha
          have hA := Lib.hid (HA.out w' hyes)
          have hr : R = .tuple #[.int .i64 (valS l), .bool true] := by rw [HR.out, numA_yes hyes]
          obtain ⟨V, hV⟩ : ∃ V, V = valS l := ⟨_, rfl⟩
          rw [← hV] at hA hr
          subst hr
          clear ha hyes hV HA HNO HR
          go_wp2_with fail
          refine hA.out.mono ?_
          rintro e w9 ⟨rfl, hb9⟩
          have HB9 := Lib.hid hb9
          clear hb9
          go_wp2_with fail
          go_quiet (fail)
          go_wp2_with fail
          go_ret2
          exact ⟨rfl, HB9.out.trans (Joins.below_draws _ _ _)⟩
end Go.Proofs.YtdmamecfmfhlmaaGreatDoor
