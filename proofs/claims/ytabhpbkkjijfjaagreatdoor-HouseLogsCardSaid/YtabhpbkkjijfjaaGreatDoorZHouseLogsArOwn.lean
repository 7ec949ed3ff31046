/-
  What reads an arena: owns, Level, Kids, Count, Live, Recall.
-/
import Derived.Test.YtabhpbkkjijfjaaGreatDoorZHouseLogsArMem
namespace Go.Proofs.YtabhpbkkjijfjaaGreatDoor
set_option maxRecDepth 100000
open Go.RowKit

theorem and_one_u64 (x : Int) : bits .and .u64 x 1 = x % 2 := by
  have h1 : BitVec.ofInt 64 x &&& BitVec.ofInt 64 1 = BitVec.ofNat 64 ((BitVec.ofInt 64 x).toNat % 2) := by
    apply BitVec.eq_of_toNat_eq
    rw [BitVec.toNat_and]
    have e : (BitVec.ofInt 64 1).toNat = 1 := by decide
    rw [e, Nat.and_one_is_mod, BitVec.toNat_ofNat]
    omega
  show IntKind.u64.wrap ((BitVec.ofInt 64 x &&& BitVec.ofInt 64 1).toNat : Int) = x % 2
  rw [h1, BitVec.toNat_ofNat, IntKind.wrap_u64]
  have e2 : ((BitVec.ofInt 64 x).toNat : Int) = x % 18446744073709551616 := by
    rw [BitVec.toNat_ofInt]; omega
  omega
theorem bit_u64 (m t : Nat) : (bits .and .u64 ((m : Int) / 2 ^ t) 1 == 1) = m.testBit t := by
  rw [and_one_u64, Nat.testBit_eq_decide_div_mod_eq]
  have e : (m : Int) / 2 ^ t = ((m / 2 ^ t : Nat) : Int) := by
    rw [Int.natCast_ediv, Int.natCast_pow]; rfl
  rw [e]
  by_cases h : m / 2 ^ t % 2 = 1
  · rw [decide_eq_true h]; simp; omega
  · rw [decide_eq_false h]; simp; omega
theorem ownsA_list {L : List (Option Ent)} {t id : Nat} {kind : Int} {u : Option Ent} (hu : L[id]? = some u) (h2 : 2 ≤ id) : ownsA L t id kind = (decide ((u.getD zeroE).k = kind) && (u.getD zeroE).ma.testBit t) := by
  have e1 : decide ((id : Int) = 0) = false := decide_eq_false (by omega)
  have e2 : decide ((id : Int) = 1) = false := decide_eq_false (by omega)
  have e3 : decide (2 ≤ (id : Int)) = true := decide_eq_true (by omega)
  have e4 : atL L id = u := by rw [atL, hu]; rfl
  rw [ownsA, e1, e2, e3, Int.toNat_natCast, e4]
  cases u with
  | none => simp [zeroE]
  | some x => simp
theorem ownsA_out {L : List (Option Ent)} {t : Nat} {id kind : Int} (h : id < 2 ∨ (L.length : Int) ≤ id) (hk : kind ≠ 0 ∨ (id ≠ 0 ∧ id ≠ 1)) : ownsA L t id kind = false := by
  have e1 : (decide (kind = 0) && (decide (id = 0) || decide (id = 1))) = false := by
    rcases hk with h | ⟨h1, h2⟩
    · rw [decide_eq_false h]; rfl
    · rw [decide_eq_false h1, decide_eq_false h2]; simp
  rw [ownsA, e1, Bool.false_or]
  rcases h with h | h
  · rw [decide_eq_false (by omega)]; rfl
  · rw [atL_out (by omega)]; simp
theorem ownsA_base {L : List (Option Ent)} {t : Nat} {id : Int} (h : id = 0 ∨ id = 1) : ownsA L t id 0 = true := by
  unfold ownsA
  rcases h with h | h <;> subst h <;> rfl
set_option maxHeartbeats 1000000 in
theorem owns_any (b : Nat) (S : ArS) (F : Nat → Prop) (t : Nat) (id kind : Int) (w : World) (h : IsAr b S w F) (ht : t < 64) :
    Calls Tryz.prog 113 #[.pointer (some ⟨b, 0, none⟩), .int .i64 t, .int .i64 id, .int .i64 kind] w fun e w' => e = .returned (.bool (ownsA S.L t id kind)) ∧ w' = w := by
  obtain ⟨arr, v1, v3, bm, n, fr, g, vs, h⟩ := h
  obtain ⟨q, o, c, rfl, hFq, hqb, hent⟩ := h.ents
  have c1 : w.cell? ⟨b, 1, none⟩ = some (.slice (some ⟨q, o, none⟩) S.L.length c) := (h.cell 1).trans h.c1
  by_cases hb : kind = 0 ∧ (id = 0 ∨ id = 1)
  · obtain ⟨rfl, hid⟩ := hb
    rw [ownsA_base hid]
    clear h hent
    rcases hid with rfl | rfl
    all_goals
      go_enter Tryz.func113, Tryz.ntmps113
      go_wp2_with fail
      go_ret
      exact ⟨rfl, rfl⟩
  · by_cases h2 : id < 2
    · rw [ownsA_out (.inl h2) (by omega)]
      have g3 : decide (id ≥ 2) = false := decide_eq_false (by omega)
      have g5 : decide (2 ≤ id) = false := decide_eq_false (by omega)
      clear h hent
      by_cases hk : kind = 0
      · subst hk
        have g1 : (id == 0) = false := by simp; omega
        have g2 : (id == 1) = false := by simp; omega
        go_enter Tryz.func113, Tryz.ntmps113
        go_wp2_with fail
        go_ret
        exact ⟨rfl, rfl⟩
      · have g1 : (kind == 0) = false := by simpa using hk
        go_enter Tryz.func113, Tryz.ntmps113
        go_wp2_with fail
        go_ret
        exact ⟨rfl, rfl⟩
    · obtain ⟨i, rfl⟩ := Int.eq_ofNat_of_zero_le (show 0 ≤ id by omega)
      have g1 : ((i : Int) == 0) = false := by simp; omega
      have g2 : ((i : Int) == 1) = false := by simp; omega
      have g3 : decide ((i : Int) ≥ 2) = true := decide_eq_true (by omega)
      have g5 : decide (2 ≤ (i : Int)) = true := decide_eq_true (by omega)
      have g7 : decide (2 ≤ i) = true := decide_eq_true (by omega)
      by_cases hl : i < S.L.length
      · obtain ⟨u, hu⟩ : ∃ u, S.L[i]? = some u := ⟨_, List.getElem?_eq_getElem hl⟩
        rw [ownsA_list hu (by omega)]
        have e0 := hent i u hu 0 (by omega)
        have e7 := hent i u hu 7 (by omega)
        obtain ⟨x, hx⟩ : ∃ x, x = u.getD zeroE := ⟨_, rfl⟩
        rw [← hx]
        simp only [encO, ← hx, encEnt, List.getElem?_cons_zero, List.getElem?_cons_succ, Nat.add_zero] at e0 e7
        obtain ⟨N, hN⟩ : ∃ N, N = S.L.length := ⟨_, rfl⟩
        rw [← hN] at c1 hl
        have hbit := bit_u64 x.ma t
        have g4 : decide ((i : Int) < (N : Int)) = true := decide_eq_true (by omega)
        have g6 : decide (i < N) = true := decide_eq_true (by omega)
        clear h hent hu hx hN
        by_cases hk0 : kind = 0
        · subst hk0
          by_cases hk : x.k = 0
          · have hkb : (x.k == 0) = true := by simpa using hk
            have hkd : decide (x.k = 0) = true := decide_eq_true hk
            rw [hkd, Bool.true_and]
            clear hk
            go_enter Tryz.func113, Tryz.ntmps113
            go_wp2_with fail
            go_ret
            exact ⟨rfl, rfl⟩
          · have hkb : (x.k == 0) = false := by simpa using hk
            have hkd : decide (x.k = 0) = false := decide_eq_false hk
            rw [hkd, Bool.false_and]
            clear hbit hk
            go_enter Tryz.func113, Tryz.ntmps113
            go_wp2_with fail
            go_ret
            exact ⟨rfl, rfl⟩
        · have hk1 : (kind == 0) = false := by simpa using hk0
          by_cases hk : x.k = kind
          · have hkb : (x.k == kind) = true := by simpa using hk
            have hkd : decide (x.k = kind) = true := decide_eq_true hk
            rw [hkd, Bool.true_and]
            clear hk hk0
            go_enter Tryz.func113, Tryz.ntmps113
            go_wp2_with fail
            go_ret
            exact ⟨rfl, rfl⟩
          · have hkb : (x.k == kind) = false := by simpa using hk
            have hkd : decide (x.k = kind) = false := decide_eq_false hk
            rw [hkd, Bool.false_and]
            clear hbit hk hk0
            go_enter Tryz.func113, Tryz.ntmps113
            go_wp2_with fail
            go_ret
            exact ⟨rfl, rfl⟩
      · rw [ownsA_out (.inr (by omega)) (by omega)]
        obtain ⟨N, hN⟩ : ∃ N, N = S.L.length := ⟨_, rfl⟩
        rw [← hN] at c1 hl
        have g4 : decide ((i : Int) < (N : Int)) = false := decide_eq_false (by omega)
        have g6 : decide (i < N) = false := decide_eq_false (by omega)
        clear h hent hN
        by_cases hk0 : kind = 0
        · subst hk0
          go_enter Tryz.func113, Tryz.ntmps113
          go_wp2_with fail
          go_ret
          exact ⟨rfl, rfl⟩
        · have hk1 : (kind == 0) = false := by simpa using hk0
          clear hk0
          go_enter Tryz.func113, Tryz.ntmps113
          go_wp2_with fail
          go_ret
          exact ⟨rfl, rfl⟩
end Go.Proofs.YtabhpbkkjijfjaaGreatDoor
