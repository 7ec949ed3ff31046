/-
  For every text, speech.Named and speech.Keyed answer what the document says; no condition.
-/
import Derived.Test.YtdmamecfmfhlmaaGreatDoorKinds
import Derived.Lib.ConvBytes
import Derived.Lib.AtoiErrMem
namespace Go.Proofs.YtdmamecfmfhlmaaGreatDoor
set_option maxRecDepth 100000
open Go.RowKit

def lowB (c : UInt8) : Bool := decide (97 ≤ c.toNat) && decide (c.toNat ≤ 122)
def namedF (l : List UInt8) : Bool := l.all lowB && (decide (0 < l.length) && decide (l.length ≤ 12))
theorem take_bytes (s : ByteArray) (k : Nat) (h : k < s.size) : s.data.toList.take (k + 1) = s.data.toList.take k ++ [s[k]] := by
  rw [List.take_succ_eq_append_getElem (by simpa using h)]; rfl
theorem bytes_get (s : ByteArray) (k : Nat) (h : k < s.size) : s.data.toList[k]? = some s[k] := by
  rw [List.getElem?_eq_getElem (by simpa using h)]; rfl
theorem all_take_succ {p : UInt8 → Bool} {s : ByteArray} {k : Nat} (h : k < s.size) (h1 : (s.data.toList.take k).all p = true) (h2 : p s[k] = true) : (s.data.toList.take (k + 1)).all p = true := by
  rw [take_bytes s k h, List.all_append, h1]; simp [h2]
theorem all_bad {p : UInt8 → Bool} {s : ByteArray} {k : Nat} (h : k < s.size) (h2 : p s[k] = false) : s.data.toList.all p = false := by
  rw [List.all_eq_false]
  exact ⟨s[k], List.mem_of_getElem? (bytes_get s k h), by simp [h2]⟩
theorem named_end {s : ByteArray} (h : s.data.toList.all lowB = true) : namedF s.data.toList = (!s.toList.isEmpty && decide ((s.size : Int) ≤ 12)) := by
  rw [namedF, h, ByteArray.toList_eq, Bool.eq_iff_iff]
  have e : s.data.toList.length = s.size := by simp
  rw [e]
  have e2 : s.data.toList.isEmpty = decide (s.size = 0) := by
    rw [Bool.eq_iff_iff, List.isEmpty_iff, decide_eq_true_eq, ← e, List.length_eq_zero_iff]
  rw [e2]
  by_cases h0 : s.size = 0 <;> simp [h0] <;> omega
theorem threeB (n : Nat) : n < 97 ∨ (97 ≤ n ∧ 122 < n) ∨ (97 ≤ n ∧ n ≤ 122) := by omega

set_option maxHeartbeats 1000000 in
theorem named_any (s : ByteArray) (w : World) (hs : s.size ≤ 140737488351232) :
    Calls Tryz.prog 37 #[.string s] w fun e w' => e = .returned (.bool (namedF s.data.toList)) ∧ Below w.heap.size w w' := by
  go_enter Tryz.func37, Tryz.ntmps37
  go_wp2
  go_loop [3] (fun i => ∃ k : Nat, k ≤ s.size ∧ i = .int .i64 k ∧ (s.data.toList.take k).all lowB = true) (fun i => s.size - (intOf i).toNat)
  case atStart => exact ⟨0, Nat.zero_le _, rfl, rfl⟩
  case round =>
    obtain ⟨k, hk, rfl, hI⟩ := hrel
    have HI := Lib.hid hI
    clear hI
    by_cases hlt : k < s.size
    · rcases threeB s[k].toNat with c | ⟨c1, c⟩ | ⟨c1, c2⟩
      · have hb := all_bad (p := lowB) hlt (by simp [lowB]; omega)
        have HB := Lib.hid hb
        clear hb
        go_wp2
        go_ret
        exact ⟨by rw [namedF, HB.out]; rfl, Below.refl _ _⟩
      · have hb := all_bad (p := lowB) hlt (by simp [lowB]; omega)
        have HB := Lib.hid hb
        clear hb
        go_wp2
        go_ret
        exact ⟨by rw [namedF, HB.out]; rfl, Below.refl _ _⟩
      · have hb := all_take_succ (p := lowB) hlt HI.out (by simp [lowB]; omega)
        have HB := Lib.hid hb
        clear hb
        go_wp2
        go_round
        case rel => exact ⟨k + 1, by omega, by go_num, HB.out⟩
        case measure => simp [intOf]; omega
    · obtain rfl : k = s.size := by omega
      have ha := HI.out
      rw [List.take_of_length_le (by simp)] at ha
      have HA := Lib.hid ha
      clear ha
      go_wp2
      all_goals
        go_ret
        refine ⟨?_, Below.refl _ _⟩
        rw [named_end HA.out]
        simp_all

/-- The bytes of a text as a slice of the call's own. -/
theorem conv_bytes (s : ByteArray) (w : World) : ∃ (W : World) (c : Nat), (convert 9 42 (.string s)).run Tryz.prog w = .ok (.slice (some ⟨w.heap.size, 0, none⟩) s.size c) W ∧ Below w.heap.size w W ∧
    (∀ j, (h : j < s.size) → W.cell? ⟨w.heap.size, j, none⟩ = some (.int .u8 s[j].toNat)) :=
  ⟨_, _, Lib.run_convert_string_bytes w _ _ _ s Tryz.underlying9 Tryz.underlying42 Tryz.underlying5, Lib.bytesWorld_below _ _ _, fun j h => by
    rw [Lib.bytesWorld_cell _ _ _ _ h]
    have e : s.data.toList.getD j 0 = s[j] := by rw [List.getD, bytes_get s j h]; rfl
    rw [e]⟩

set_option maxRecDepth 100000 in
set_option maxHeartbeats 1000000 in
theorem refNamed_any (s : ByteArray) (w : World) (hs : s.size ≤ 140737488351232) :
    Calls Tryz.prog 30 #[.string s] w fun e w' => e = .returned (.bool (namedF s.data.toList)) ∧ Below w.heap.size w w' := by
  obtain ⟨W, c, hcv, hB, hcell⟩ := conv_bytes s w
  have HC := Lib.hid hcell
  clear hcell
  go_enter Tryz.func30, Tryz.ntmps30
  go_wp2
  go_loop [8] (fun i => ∃ k : Nat, k ≤ s.size ∧ i = .int .i64 k ∧ (s.data.toList.take k).all lowB = true) (fun i => s.size - (intOf i).toNat)
  case atStart => exact ⟨0, Nat.zero_le _, rfl, rfl⟩
  case round =>
    obtain ⟨k, hk, rfl, hI⟩ := hrel
    have HI := Lib.hid hI
    clear hI
    by_cases hlt : k < s.size
    · have g0 := HC.out k hlt
      rcases threeB s[k].toNat with c | ⟨c1, c⟩ | ⟨c1, c2⟩
      · have hb := all_bad (p := lowB) hlt (by simp [lowB]; omega)
        have HB := Lib.hid hb
        clear hb
        go_wp2
        go_ret
        exact ⟨by rw [namedF, HB.out]; rfl, hB⟩
      · have hb := all_bad (p := lowB) hlt (by simp [lowB]; omega)
        have HB := Lib.hid hb
        clear hb
        go_wp2
        go_ret
        exact ⟨by rw [namedF, HB.out]; rfl, hB⟩
      · have hb := all_take_succ (p := lowB) hlt HI.out (by simp [lowB]; omega)
        have HB := Lib.hid hb
        clear hb
        go_wp2
        go_round
        case rel => exact ⟨k + 1, by omega, by go_num, HB.out⟩
        case measure => simp [intOf]; omega
    · obtain rfl : k = s.size := by omega
      have ha := HI.out
      rw [List.take_of_length_le (by simp)] at ha
      have HA := Lib.hid ha
      clear ha
      by_cases h0 : 0 < s.size
      all_goals
        go_wp2
        go_ret
        refine ⟨?_, hB⟩
        have e : s.data.toList.length = s.size := by simp
        rw [namedF, HA.out, e]
        simp [h0] <;> omega
def kByte (c : UInt8) : Bool := (decide (97 ≤ c.toNat) && decide (c.toNat ≤ 122)) || (decide (48 ≤ c.toNat) && decide (c.toNat ≤ 57))
/-- What a key's text must be. -/
def keyedF (l : List UInt8) : Bool := decide (2 ≤ l.length) && (decide (l.length ≤ 41) && (l.head? == some 33 && l.tail.all kByte))
theorem fiveB (n : Nat) : n < 48 ∨ (48 ≤ n ∧ n ≤ 57) ∨ (57 < n ∧ n < 97) ∨ (97 ≤ n ∧ n ≤ 122) ∨ (97 ≤ n ∧ 122 < n) := by omega
theorem keyed_short {l : List UInt8} (h : l.length < 2 ∨ 41 < l.length) : keyedF l = false := by
  rcases h with h | h
  · have : ¬ 2 ≤ l.length := by omega
    simp [keyedF, this]
  · have : ¬ l.length ≤ 41 := by omega
    simp [keyedF, this]
theorem head_get (s : ByteArray) (h : 0 < s.size) : s.data.toList.head? = some s[0] := by
  rw [List.head?_eq_getElem?, bytes_get s 0 h]
theorem keyed_head {s : ByteArray} (h : 0 < s.size) (h1 : s[0].toNat ≠ 33) : keyedF s.data.toList = false := by
  have : (s.data.toList.head? == some 33) = false := by
    rw [head_get s h]
    simp only [beq_eq_false_iff_ne, ne_eq, Option.some.injEq]
    intro e
    rw [e] at h1
    exact h1 rfl
  simp [keyedF, this]
theorem tail_get (s : ByteArray) (k : Nat) (h : k < s.size) (h1 : 1 ≤ k) : s.data.toList.tail[k - 1]? = some s[k] := by
  rw [List.getElem?_tail, show k - 1 + 1 = k by omega, bytes_get s k h]
theorem keyed_bad {s : ByteArray} {k : Nat} (h : k < s.size) (h1 : 1 ≤ k) (h2 : kByte s[k] = false) : keyedF s.data.toList = false := by
  have : s.data.toList.tail.all kByte = false := by
    rw [List.all_eq_false]
    exact ⟨s[k], List.mem_of_getElem? (tail_get s k h h1), by simp [h2]⟩
  simp [keyedF, this]
theorem keyed_step {s : ByteArray} {k : Nat} (h : k < s.size) (h1 : 1 ≤ k) (hI : (s.data.toList.tail.take (k - 1)).all kByte = true) (h2 : kByte s[k] = true) : (s.data.toList.tail.take k).all kByte = true := by
  have e : s.data.toList.tail.take k = s.data.toList.tail.take (k - 1) ++ [s[k]] := by
    have := List.take_add_one (l := s.data.toList.tail) (i := k - 1)
    rw [show k - 1 + 1 = k by omega, tail_get s k h h1] at this
    exact this
  rw [e, List.all_append, hI]; simp [h2]
theorem keyed_end {s : ByteArray} (h2 : 2 ≤ s.size) (h3 : s.size ≤ 41) (h0 : s[0].toNat = 33) (hI : (s.data.toList.tail.take (s.size - 1)).all kByte = true) : keyedF s.data.toList = true := by
  have e : s.data.toList.length = s.size := by simp
  rw [List.take_of_length_le (by simp)] at hI
  have e0 : s[0] = 33 := UInt8.toNat_inj.1 (by rw [h0]; rfl)
  have a1 : decide (2 ≤ s.size) = true := by simpa using h2
  have a2 : decide (s.size ≤ 41) = true := by simpa using h3
  rw [keyedF, e, a1, a2, head_get s (by omega), hI, e0]
  rfl

set_option maxRecDepth 100000 in
set_option maxHeartbeats 4000000 in
theorem keyed_any (s : ByteArray) (w : World) (hs : s.size ≤ 140737488351232) :
    Calls Tryz.prog 39 #[.string s] w fun e w' => e = .returned (.bool (keyedF s.data.toList)) ∧ Below w.heap.size w w' := by
  have hl : s.data.toList.length = s.size := by simp
  have HL := Lib.hid hl
  clear hl
  rcases (show s.size < 2 ∨ (2 ≤ s.size ∧ 41 < s.size) ∨ (2 ≤ s.size ∧ s.size ≤ 41) by omega) with c | ⟨c1, c⟩ | ⟨c1, c2⟩
  · go_enter Tryz.func39, Tryz.ntmps39
    go_wp2
    go_ret
    exact ⟨by rw [keyed_short (by rw [HL.out]; omega)]; rfl, Below.refl _ _⟩
  · go_enter Tryz.func39, Tryz.ntmps39
    go_wp2
    go_ret
    exact ⟨by rw [keyed_short (by rw [HL.out]; omega)]; rfl, Below.refl _ _⟩
  · have hp : 0 < s.size := by omega
    by_cases h0 : s[0].toNat = 33
    · have hh : ((s[0].toNat : Int) == 33) = true := by simp [h0]
      have hh2 : ((s[0].toNat : Int) != 33) = false := by simp [h0]
      have H0 := Lib.hid h0
      clear h0
      go_enter Tryz.func39, Tryz.ntmps39
      go_wp2
      go_loop [3] (fun i => ∃ k : Nat, 1 ≤ k ∧ k ≤ s.size ∧ i = .int .i64 k ∧ (s.data.toList.tail.take (k - 1)).all kByte = true) (fun i => s.size - (intOf i).toNat)
      case atStart => exact ⟨1, Nat.le_refl _, by omega, rfl, rfl⟩
      case round =>
        obtain ⟨k, hk1, hk, rfl, hI⟩ := hrel
        have HI := Lib.hid hI
        clear hI
        by_cases hlt : k < s.size
        · rcases fiveB s[k].toNat with c | ⟨d1, d2⟩ | ⟨d1, d2⟩ | ⟨d1, d2⟩ | ⟨d1, d2⟩
          · have hb := keyed_bad hlt hk1 (by simp [kByte]; omega)
            have HB := Lib.hid hb
            clear hb
            go_wp2
            go_ret
            exact ⟨by rw [HB.out]; rfl, Below.refl _ _⟩
          · have hb := keyed_step hlt hk1 HI.out (by simp [kByte]; omega)
            have HB := Lib.hid hb
            clear hb
            go_wp2
            go_round
            case rel => exact ⟨k + 1, by omega, by omega, by go_num, HB.out⟩
            case measure => simp [intOf]; omega
          · have hb := keyed_bad hlt hk1 (by simp [kByte]; omega)
            have HB := Lib.hid hb
            clear hb
            go_wp2
            go_ret
            exact ⟨by rw [HB.out]; rfl, Below.refl _ _⟩
          · have hb := keyed_step hlt hk1 HI.out (by simp [kByte]; omega)
            have HB := Lib.hid hb
            clear hb
            go_wp2
            go_round
            case rel => exact ⟨k + 1, by omega, by omega, by go_num, HB.out⟩
            case measure => simp [intOf]; omega
          · have hb := keyed_bad hlt hk1 (by simp [kByte]; omega)
            have HB := Lib.hid hb
            clear hb
            go_wp2
            go_ret
            exact ⟨by rw [HB.out]; rfl, Below.refl _ _⟩
        · obtain rfl : k = s.size := by omega
          go_wp2
          go_ret
          exact ⟨by rw [keyed_end c1 c2 H0.out HI.out]; rfl, Below.refl _ _⟩
    · have hh : ((s[0].toNat : Int) == 33) = false := by simp; omega
      have hh2 : ((s[0].toNat : Int) != 33) = true := by simp; omega
      have H0 := Lib.hid h0
      clear h0
      go_enter Tryz.func39, Tryz.ntmps39
      go_wp2
      go_ret
      exact ⟨by rw [keyed_head hp H0.out]; rfl, Below.refl _ _⟩

theorem digit_any (c : UInt8) (w : World) : Calls Tryz.prog 44 #[.int .u8 c.toNat] w fun e w' => e = .returned (.bool (decide (48 ≤ c.toNat) && decide (c.toNat ≤ 57))) ∧ w = w' := by
  rcases (show c.toNat < 48 ∨ (48 ≤ c.toNat ∧ 57 < c.toNat) ∨ (48 ≤ c.toNat ∧ c.toNat ≤ 57) by omega) with h | ⟨h1, h⟩ | ⟨h1, h⟩
  · have q : (decide (48 ≤ c.toNat) && decide (c.toNat ≤ 57)) = false := by simp; omega
    rw [q]
    clear q
    go_enter Tryz.func44, Tryz.ntmps44
    go_wp2
    go_ret
    exact ⟨by simp <;> omega, rfl⟩
  · have q : (decide (48 ≤ c.toNat) && decide (c.toNat ≤ 57)) = false := by simp; omega
    rw [q]
    clear q
    go_enter Tryz.func44, Tryz.ntmps44
    go_wp2
    go_ret
    exact ⟨by simp <;> omega, rfl⟩
  · have q : (decide (48 ≤ c.toNat) && decide (c.toNat ≤ 57)) = true := by simp; omega
    rw [q]
    clear q
    go_enter Tryz.func44, Tryz.ntmps44
    go_wp2
    go_ret
    exact ⟨by simp <;> omega, rfl⟩
set_option maxRecDepth 100000 in
set_option maxHeartbeats 4000000 in
theorem refKeyed_any (s : ByteArray) (w : World) (hs : s.size ≤ 140737488351232) :
    Calls Tryz.prog 31 #[.string s] w fun e w' => e = .returned (.bool (keyedF s.data.toList)) ∧ Below w.heap.size w w' := by
  have hl : s.data.toList.length = s.size := by simp
  have HL := Lib.hid hl
  clear hl
  obtain ⟨W, c, hcv, hB, hcell⟩ := conv_bytes s w
  have HC := Lib.hid hcell
  clear hcell
  rcases (show s.size < 2 ∨ (2 ≤ s.size ∧ 41 < s.size) ∨ (2 ≤ s.size ∧ s.size ≤ 41) by omega) with c | ⟨c1, c⟩ | ⟨c1, c2⟩
  · clear hcv hB
    go_enter Tryz.func31, Tryz.ntmps31
    go_wp2_with fail
    go_ret
    exact ⟨by rw [keyed_short (by rw [HL.out]; omega)]; rfl, Below.refl _ _⟩
  · clear hcv hB
    go_enter Tryz.func31, Tryz.ntmps31
    go_wp2_with fail
    go_ret
    exact ⟨by rw [keyed_short (by rw [HL.out]; omega)]; rfl, Below.refl _ _⟩
  · have hp : 0 < s.size := by omega
    go_enter Tryz.func31, Tryz.ntmps31
    go_wp2_with fail
    go_loop [16] (fun i => ∃ k : Nat, k ≤ s.size ∧ i = .int .i64 k ∧ (0 < k → s[0].toNat = 33) ∧ (s.data.toList.tail.take (k - 1)).all kByte = true) (fun i => s.size - (intOf i).toNat)
    case atStart => exact ⟨0, by omega, rfl, fun h => by omega, rfl⟩
    case round =>
      obtain ⟨k, hk, rfl, hI0, hI⟩ := hrel
      have HI := Lib.hid hI
      have HI0 := Lib.hid hI0
      clear hI hI0
      by_cases hlt : k < s.size
      · have g0 := HC.out k hlt
        by_cases hk0 : k = 0
        · subst hk0
          by_cases h0 : s[0].toNat = 33
          · have hh2 : ((s[0].toNat : Int) != 33) = false := by simp [h0]
            have H0 := Lib.hid h0
            clear h0
            go_wp2_with fail
            go_round
            case rel => exact ⟨1, by omega, by go_num, fun _ => H0.out, rfl⟩
            case measure => simp [intOf]; omega
          · have hh2 : ((s[0].toNat : Int) != 33) = true := by simp; omega
            have H0 := Lib.hid h0
            clear h0
            go_wp2_with fail
            go_ret
            exact ⟨by rw [keyed_head hp H0.out]; rfl, hB⟩
        · have hk1 : 1 ≤ k := by omega
          have hkz : ((k : Int) == 0) = false := by simp; omega
          rcases fiveB s[k].toNat with c | ⟨d1, d2⟩ | ⟨d1, d2⟩ | ⟨d1, d2⟩ | ⟨d1, d2⟩
          · have hb := keyed_bad hlt hk1 (by simp [kByte]; omega)
            have hd : (decide (48 ≤ s[k].toNat) && decide (s[k].toNat ≤ 57)) = false := by simp; omega
            have HB := Lib.hid hb
            clear hb
            go_wp2_with (go_at_call 44; refine (digit_any _ _).mono ?_; rintro e w' ⟨rfl, rfl⟩)
            go_ret
            exact ⟨by rw [HB.out]; rfl, hB⟩
          · have hb := keyed_step hlt hk1 (HI.out) (by simp [kByte]; omega)
            have hd : (decide (48 ≤ s[k].toNat) && decide (s[k].toNat ≤ 57)) = true := by simp; omega
            have HB := Lib.hid hb
            clear hb
            go_wp2_with (go_at_call 44; refine (digit_any _ _).mono ?_; rintro e w' ⟨rfl, rfl⟩)
            go_round
            case rel => exact ⟨k + 1, by omega, by go_num, fun _ => HI0.out (by omega), HB.out⟩
            case measure => simp [intOf]; omega
          · have hb := keyed_bad hlt hk1 (by simp [kByte]; omega)
            have hd : (decide (48 ≤ s[k].toNat) && decide (s[k].toNat ≤ 57)) = false := by simp; omega
            have HB := Lib.hid hb
            clear hb
            go_wp2_with (go_at_call 44; refine (digit_any _ _).mono ?_; rintro e w' ⟨rfl, rfl⟩)
            go_ret
            exact ⟨by rw [HB.out]; rfl, hB⟩
          · have hb := keyed_step hlt hk1 (HI.out) (by simp [kByte]; omega)
            have hd : (decide (48 ≤ s[k].toNat) && decide (s[k].toNat ≤ 57)) = false := by simp; omega
            have HB := Lib.hid hb
            clear hb
            go_wp2_with (go_at_call 44; refine (digit_any _ _).mono ?_; rintro e w' ⟨rfl, rfl⟩)
            go_round
            case rel => exact ⟨k + 1, by omega, by go_num, fun _ => HI0.out (by omega), HB.out⟩
            case measure => simp [intOf]; omega
          · have hb := keyed_bad hlt hk1 (by simp [kByte]; omega)
            have hd : (decide (48 ≤ s[k].toNat) && decide (s[k].toNat ≤ 57)) = false := by simp; omega
            have HB := Lib.hid hb
            clear hb
            go_wp2_with (go_at_call 44; refine (digit_any _ _).mono ?_; rintro e w' ⟨rfl, rfl⟩)
            go_ret
            exact ⟨by rw [HB.out]; rfl, hB⟩
      · obtain rfl : k = s.size := by omega
        go_wp2_with fail
        go_ret
        exact ⟨by rw [keyed_end c1 c2 (HI0.out hp) HI.out]; rfl, hB⟩
end Go.Proofs.YtdmamecfmfhlmaaGreatDoor
