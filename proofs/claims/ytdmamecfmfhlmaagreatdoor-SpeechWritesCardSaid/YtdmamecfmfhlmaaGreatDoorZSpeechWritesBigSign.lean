/-
  Whole numbers of either sign: CmpAbs, Int64; the document's signed.
-/
import Derived.Test.YtdmamecfmfhlmaaGreatDoorZSpeechWritesSignMath
import Derived.Test.YtdmamecfmfhlmaaGreatDoorBigCmp
import Derived.Test.YtdmamecfmfhlmaaGreatDoorZSpeechWritesBigNeg
import Derived.Test.YtdmamecfmfhlmaaGreatDoorBigRead
namespace Go.Proofs.YtdmamecfmfhlmaaGreatDoor
set_option maxRecDepth 100000
open Go.RowKit

/-- A number in memory with its sign's flag. -/
def BigM (w : World) (p : Nat) (f : Bool) (n : Nat) : Prop := ∃ v, w.heap[p]? = some (.cells #[.bool f, v] 69 (0, 0)) ∧ AbsOf w v n
theorem BigM.of_s {w : World} {p n : Nat} {ng : Bool} (h : BigS w p ng n) : BigM w p (ng && decide (0 < n)) n := by
  unfold BigS at h
  by_cases hc : ng = true ∧ 0 < n
  · rw [if_pos hc] at h
    rw [hc.1, decide_eq_true hc.2]
    exact h
  · rw [if_neg hc] at h
    have e : (ng && decide (0 < n)) = false := by
      cases ng with
      | false => rfl
      | true => rw [Bool.true_and]; exact decide_eq_false fun e => hc ⟨rfl, e⟩
    rw [e]
    exact h
theorem BigM.below {w w' : World} {p n : Nat} {f : Bool} (h : BigM w p f n) (hb : Below w.heap.size w w') : BigM w' p f n := by
  obtain ⟨v, h1, h2⟩ := h
  exact ⟨v, (hb.block _ (lt_of_block h1)).trans h1, h2.below hb⟩
theorem bigM_read {w : World} {p n : Nat} {f : Bool} (h : BigM w p f n) : ∃ a c, w.cell? ⟨p, 0, none⟩ = some (.bool f) ∧ w.cell? ⟨p, 1, none⟩ = some (.slice a (wordsN n).length c) ∧ Sl w 1 4 a (wordsN n).length c ((wordsN n).map u32V) := by
  obtain ⟨v, hb, a, c, rfl, hs, _⟩ := h
  exact ⟨a, c, Joins.cell_of_block hb 0, Joins.cell_of_block hb 1, hs⟩
set_option maxHeartbeats 2000000 in
theorem cmpAbs_any (p q n m : Nat) (f g : Bool) (w : World) (hp : BigM w p f n) (hq : BigM w q g m) (hn : n < bigTop) :
    Calls Tryz.prog 46 #[.pointer (some ⟨p, 0, none⟩), .pointer (some ⟨q, 0, none⟩)] w fun e w' => e = .returned (.int .i64 (cmpN n m)) ∧ Below w.heap.size w w' := by
  obtain ⟨v1, hb1, hA1⟩ := hp
  obtain ⟨v2, hb2, hA2⟩ := hq
  have hf1 : ∃ a c k, v1 = .slice a k c := by obtain ⟨a, c, e, _⟩ := hA1; exact ⟨a, c, _, e⟩
  have hf2 : ∃ a c k, v2 = .slice a k c := by obtain ⟨a, c, e, _⟩ := hA2; exact ⟨a, c, _, e⟩
  have p1 := Joins.cell_of_block hb1 1
  have q1 := Joins.cell_of_block hb2 1
  simp at p1 q1
  have HC := Lib.hid (fun (x : Grow w) => cmp_any n m v1 v2 x.val hn (hA1.below x.below) (hA2.below x.below))
  obtain ⟨r, hr⟩ : ∃ r, r = cmpN n m := ⟨_, rfl⟩
  rw [← hr] at HC ⊢
  have gp1 : ∀ x : Grow w, x.val.cell? ⟨p, 1, none⟩ = some v1 := Grow.cells p1
  have gq1 : ∀ x : Grow w, x.val.cell? ⟨q, 1, none⟩ = some v2 := Grow.cells q1
  clear hA1 hA2 hb1 hb2 hr hf1 hf2 p1 q1
  go_enter Tryz.func46, Tryz.ntmps46
  go_upto_region 1 with fail
  refine wp_region_grow (by kernel_rfl) (by kernel_rfl) ?_
  repeat (go_big_quiet_step ((go_at_call 65; with_reducible exact grow_of (HC.out _))))
  refine wpQuiet_nil ?_
  intro _ hw'
  obtain ⟨z, hz⟩ := hw'
  subst hz
  go_wp2_with fail
  go_ret
  exact ⟨rfl, z.below⟩
set_option maxHeartbeats 2000000 in
theorem uint64_m (p n : Nat) (f : Bool) (w : World) (hp : BigM w p f n) (hn : n < 18446744073709551616) :
    Calls Tryz.prog 66 #[.pointer (some ⟨p, 0, none⟩)] w fun e w' => e = .returned (.int .u64 n) ∧ w' = w := by
  obtain ⟨a1, c1, p0, p1, s1⟩ := bigM_read hp
  have hlt := wordsN_lt n
  by_cases h0 : n = 0
  · subst h0
    clear s1 hlt
    rw [wordsN_zero] at p1
    go_enter Tryz.func66, Tryz.ntmps66
    go_wp2_with fail
    go_ret
    exact ⟨rfl, rfl⟩
  · by_cases h1 : n < 4294967296
    · have hw : wordsN n = [n] := by rw [wordsN_two hn, if_neg h0, if_pos h1]
      rw [hw] at p1 s1
      obtain ⟨b, o, rfl, hr⟩ := s1.row (by simp)
      have e0 : w.cell? ⟨b, o, none⟩ = some (.int .u32 n) := hr 0 _ rfl
      clear s1 hr hw hlt
      simp at p1
      go_enter Tryz.func66, Tryz.ntmps66
      go_wp2_with fail
      go_ret
      exact ⟨rfl, rfl⟩
    · have hw : wordsN n = [n % 4294967296, n / 4294967296] := by rw [wordsN_two hn, if_neg h0, if_neg h1]
      rw [hw] at p1 s1
      obtain ⟨b, o, rfl, hr⟩ := s1.row (by simp)
      have e0 : w.cell? ⟨b, o, none⟩ = some (.int .u32 (n % 4294967296 : Nat)) := hr 0 _ rfl
      have e1 : w.cell? ⟨b, o + 1, none⟩ = some (.int .u32 (n / 4294967296 : Nat)) := hr 1 _ rfl
      obtain ⟨x, hx⟩ : ∃ x, x = n % 4294967296 := ⟨_, rfl⟩
      obtain ⟨y, hy⟩ : ∃ y, y = n / 4294967296 := ⟨_, rfl⟩
      have hx1 : x < 4294967296 := by omega
      have hy1 : y < 4294967296 := by omega
      rw [← hx] at e0
      rw [← hy] at e1
      have HXY : Aside (x + 4294967296 * y = n) := by show _ = _; omega
      have hor := or_words x y hx1 hy1
      rw [HXY.out] at hor
      clear s1 hr hw hlt hx hy
      simp at p1
      go_enter Tryz.func66, Tryz.ntmps66
      go_wp2_with fail
      go_ret
      exact ⟨rfl, rfl⟩
set_option maxHeartbeats 1000000 in
theorem int64_m (p n : Nat) (f : Bool) (w : World) (hp : BigM w p f n) (hn : n < 9223372036854775808) :
    Calls Tryz.prog 47 #[.pointer (some ⟨p, 0, none⟩)] w fun e w' => e = .returned (.int .i64 (if f = true then -(n : Int) else (n : Int))) ∧ w' = w := by
  obtain ⟨a1, c1, p0, p1, s1⟩ := bigM_read hp
  have HU := Lib.hid (uint64_m p n f w hp (by omega))
  clear p1 s1 hp
  cases f with
  | false =>
    rw [if_neg (by decide)]
    go_enter Tryz.func47, Tryz.ntmps47
    go_wp2_with fail
    refine HU.out.mono ?_
    rintro e w' ⟨rfl, rfl⟩
    go_wp2_with fail
    go_ret
    exact ⟨rfl, rfl⟩
  | true =>
    rw [if_pos rfl]
    have hw1 : IntKind.i64.wrap (-(n : Int)) = -(n : Int) := by rw [IntKind.wrap_i64]; omega
    go_enter Tryz.func47, Tryz.ntmps47
    go_wp2_with fail
    refine HU.out.mono ?_
    rintro e w' ⟨rfl, rfl⟩
    go_wp2_with fail
    go_ret
    exact ⟨rfl, rfl⟩
theorem bigString_s (p n : Nat) (ng : Bool) (w : World) (hp : BigS w p ng n) (hn : n < bigTop) :
    Calls Tryz.prog 28 #[.pointer (some ⟨p, 0, none⟩)] w fun e w' => e = .returned (.string (txt (strZ ng n))) ∧ Below w.heap.size w w' := by
  unfold BigS at hp
  unfold strZ
  by_cases hc : ng = true ∧ 0 < n
  · rw [if_pos hc] at hp ⊢
    exact bigString_neg p n w hp hc.2 hn
  · rw [if_neg hc] at hp ⊢
    exact bigString_any p n w hp hn
end Go.Proofs.YtdmamecfmfhlmaaGreatDoor
