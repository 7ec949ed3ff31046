/-
  Whole numbers: Cmp, Uint64, Int64.
-/
import Derived.Test.YtffgpjkkgndkiaaBigCmp
import Derived.Laws.Bits64
namespace Go.Proofs.Ytffgpjkkgndkiaa
set_option maxRecDepth 100000
open Go.RowKit

theorem or_u64 (a b : Nat) (ha : a < 18446744073709551616) (hb : b < 18446744073709551616) : bits .or .u64 (a : Int) (b : Int) = ((a ||| b : Nat) : Int) := by
  have hx : a ||| b < 2 ^ 64 := Nat.or_lt_two_pow (by omega) (by omega)
  have h1 : (BitVec.ofInt 64 (a : Int)).toNat = a := by
    rw [BitVec.ofInt_natCast, BitVec.toNat_ofNat]; exact Nat.mod_eq_of_lt (by omega)
  have h2 : (BitVec.ofInt 64 (b : Int)).toNat = b := by
    rw [BitVec.ofInt_natCast, BitVec.toNat_ofNat]; exact Nat.mod_eq_of_lt (by omega)
  have h3 : bits .or .u64 (a : Int) (b : Int) = IntKind.u64.wrap (((BitVec.ofInt 64 (a : Int) ||| BitVec.ofInt 64 (b : Int)).toNat : Nat) : Int) := rfl
  rw [h3, BitVec.toNat_or, h1, h2, IntKind.wrap_u64]
  omega
theorem or_words (x y : Nat) (hx : x < 4294967296) (hy : y < 4294967296) : bits .or .u64 (x : Int) ((y : Int) * 4294967296) = ((x + 4294967296 * y : Nat) : Int) := by
  have e : (y : Int) * 4294967296 = ((y * 4294967296 : Nat) : Int) := by omega
  rw [e, or_u64 x _ (by omega) (by omega), Nat.or_comm]
  have h : y <<< 32 ||| x = y <<< 32 + x := (Nat.shiftLeft_add_eq_or_of_lt (by omega) y).symm
  rw [show y * 4294967296 = y <<< 32 by rw [Nat.shiftLeft_eq], h, Nat.shiftLeft_eq]
  omega
theorem bigAt_read {w : World} {p n : Nat} (h : BigAt w p n) : ∃ a c, w.cell? ⟨p, 0, none⟩ = some (.bool false) ∧ w.cell? ⟨p, 1, none⟩ = some (.slice a (wordsN n).length c) ∧ Sl w 1 4 a (wordsN n).length c ((wordsN n).map u32V) := by
  obtain ⟨v, hb, a, c, rfl, hs, _⟩ := h
  exact ⟨a, c, Joins.cell_of_block hb 0, Joins.cell_of_block hb 1, hs⟩
set_option maxHeartbeats 2000000 in
theorem bigCmp_any (p q n m : Nat) (w : World) (hp : BigAt w p n) (hq : BigAt w q m) (hn : n < 18446744073709551616) (hm : m < 18446744073709551616) :
    Calls Try.prog 59 #[.pointer (some ⟨p, 0, none⟩), .pointer (some ⟨q, 0, none⟩)] w fun e w' => e = .returned (.int .i64 (cmpN n m)) ∧ Below w.heap.size w w' := by
  obtain ⟨a1, c1, p0, p1, s1⟩ := bigAt_read hp
  obtain ⟨a2, c2, q0, q1, s2⟩ := bigAt_read hq
  obtain ⟨v1, hv1⟩ : ∃ v1, v1 = Value.slice a1 (wordsN n).length c1 := ⟨_, rfl⟩
  obtain ⟨v2, hv2⟩ : ∃ v2, v2 = Value.slice a2 (wordsN m).length c2 := ⟨_, rfl⟩
  have hA1 : AbsOf w v1 n := by
    obtain ⟨v, hb, hA⟩ := hp
    have h := (Joins.cell_of_block hb 1).symm.trans p1
    simp at h
    rw [hv1, ← h]; exact hA
  have hA2 : AbsOf w v2 m := by
    obtain ⟨v, hb, hA⟩ := hq
    have h := (Joins.cell_of_block hb 1).symm.trans q1
    simp at h
    rw [hv2, ← h]; exact hA
  rw [← hv1] at p1
  rw [← hv2] at q1
  have hC := fun (x : Grow w) => cmp_any n m v1 v2 x.val hn hm (hA1.below x.below) (hA2.below x.below)
  have hC2 := fun (x : Grow w.drew) => cmp_any n m v1 v2 x.val hn hm (hA1.below ((Below.refl w.heap.size w).drew.trans x.below)) (hA2.below ((Below.refl w.heap.size w).drew.trans x.below))
  have HC2 := Lib.hid hC2
  obtain ⟨r, hr⟩ : ∃ r, r = cmpN n m := ⟨_, rfl⟩
  rw [← hr] at HC2 ⊢
  have d0 : w.drew.cell? ⟨p, 0, none⟩ = some (.bool false) := p0
  have d1 : w.drew.cell? ⟨q, 0, none⟩ = some (.bool false) := q0
  have gp1 : ∀ x : Grow w.drew, x.val.cell? ⟨p, 1, none⟩ = some v1 := Grow.cells (w := w.drew) p1
  have gq1 : ∀ x : Grow w.drew, x.val.cell? ⟨q, 1, none⟩ = some v2 := Grow.cells (w := w.drew) q1
  have gp0 : ∀ x : Grow w.drew, x.val.cell? ⟨p, 0, none⟩ = some (.bool false) := Grow.cells (w := w.drew) p0
  have HB := Lib.hid ((Below.refl w.heap.size w).drew)
  clear hC hC2 hA1 hA2 s1 s2 hv1 hv2 hr hp hq
  go_enter Try.func59, Try.ntmps59
  go_wp2_with fail
  go_region
  go_wp2_with fail
  refine wp_region_grow (by kernel_rfl) (by kernel_rfl) ?_
  repeat (go_big_quiet_step ((go_at_call 111; with_reducible exact grow_of (HC2.out _))))
  refine wpQuiet_nil ?_
  intro _ hw'
  obtain ⟨z, hz⟩ := hw'
  subst hz
  have z0 := gp0 z
  clear gp1 gq1 gp0
  go_wp2_with fail
  go_ret
  exact ⟨rfl, HB.out.trans z.below⟩
set_option maxHeartbeats 2000000 in
theorem uint64_any (p n : Nat) (w : World) (hp : BigAt w p n) (hn : n < 18446744073709551616) :
    Calls Try.prog 112 #[.pointer (some ⟨p, 0, none⟩)] w fun e w' => e = .returned (.int .u64 n) ∧ w' = w := by
  obtain ⟨a1, c1, p0, p1, s1⟩ := bigAt_read hp
  have hlt := wordsN_lt hn
  by_cases h0 : n = 0
  · subst h0
    clear s1 hlt
    rw [wordsN_zero] at p1
    go_enter Try.func112, Try.ntmps112
    go_wp2_with fail
    go_ret
    exact ⟨rfl, rfl⟩
  · by_cases h1 : n < 4294967296
    · have hw : wordsN n = [n] := by rw [wordsN, if_neg h0, if_pos h1]
      rw [hw] at p1 s1
      obtain ⟨b, o, rfl, hr⟩ := s1.row (by simp)
      have e0 : w.cell? ⟨b, o, none⟩ = some (.int .u32 n) := hr 0 _ rfl
      clear s1 hr hw hlt
      simp at p1
      go_enter Try.func112, Try.ntmps112
      go_wp2_with fail
      go_ret
      exact ⟨rfl, rfl⟩
    · have hw : wordsN n = [n % 4294967296, n / 4294967296] := by rw [wordsN, if_neg h0, if_neg h1]
      rw [hw] at p1 s1
      obtain ⟨b, o, rfl, hr⟩ := s1.row (by simp)
      have e0 : w.cell? ⟨b, o, none⟩ = some (.int .u32 (n % 4294967296 : Nat)) := hr 0 _ rfl
      have e1 : w.cell? ⟨b, o + 1, none⟩ = some (.int .u32 (n / 4294967296 : Nat)) := hr 1 _ rfl
      obtain ⟨x, hx⟩ : ∃ x, x = n % 4294967296 := ⟨_, rfl⟩
      obtain ⟨y, hy⟩ : ∃ y, y = n / 4294967296 := ⟨_, rfl⟩
      have hx1 : x < 4294967296 := by omega
      have hy1 : y < 4294967296 := by omega
      rw [← hx] at e0
      rw [← hy] at e1
      have HXY : Aside (x + 4294967296 * y = n) := by show _ = _; omega
      have hor := or_words x y hx1 hy1
      rw [HXY.out] at hor
      clear s1 hr hw hlt hx hy
      simp at p1
      go_enter Try.func112, Try.ntmps112
      go_wp2_with fail
      go_ret
      exact ⟨rfl, rfl⟩
set_option maxHeartbeats 1000000 in
theorem int64_any (p n : Nat) (w : World) (hp : BigAt w p n) (hn : n < 9223372036854775808) :
    Calls Try.prog 60 #[.pointer (some ⟨p, 0, none⟩)] w fun e w' => e = .returned (.int .i64 n) ∧ w' = w := by
  obtain ⟨a1, c1, p0, p1, s1⟩ := bigAt_read hp
  have HU := Lib.hid (uint64_any p n w hp (by omega))
  clear p1 s1 hp
  go_enter Try.func60, Try.ntmps60
  go_wp2_with fail
  refine HU.out.mono ?_
  rintro e w' ⟨rfl, rfl⟩
  go_wp2_with fail
  go_ret
  exact ⟨rfl, rfl⟩
end Go.Proofs.Ytffgpjkkgndkiaa
