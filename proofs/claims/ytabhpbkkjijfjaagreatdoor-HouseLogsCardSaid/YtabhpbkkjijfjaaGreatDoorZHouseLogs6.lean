/-
  The digits of a number in a base, and a list turned round: plain lists; strconv.Itoa at a number that is not negative, wherever the library's table of powers of ten reads as it is listed; speech.Tell of an answer that is an error.
-/
import Derived.Lib.ItoaNum
import Derived.Shelf.Strconv.Itoa3
import Derived.Lib.AppendIntMem
import Derived.Lib.LaidTab
import Derived.Test.YtabhpbkkjijfjaaGreatDoorWordMath
import Derived.Test.YtabhpbkkjijfjaaGreatDoorZHouseLogs2
namespace Go.Proofs.YtabhpbkkjijfjaaGreatDoor
set_option maxRecDepth 100000

/-- The digits of a number, the least first. -/
def digs (B n : Nat) : List Nat := if h : n = 0 ∨ B < 2 then [] else n % B :: digs B (n / B)
termination_by n
decreasing_by exact Nat.div_lt_self (by omega) (by omega)
theorem digs_zero (B : Nat) : digs B 0 = [] := by rw [digs, dif_pos (.inl rfl)]
theorem digs_step {B n : Nat} (hn : 0 < n) (hB : 2 ≤ B) : digs B n = n % B :: digs B (n / B) := by rw [digs, dif_neg (by omega)]
theorem digs_len {B : Nat} (hB : 2 ≤ B) : ∀ (k n : Nat), n < B ^ k → (digs B n).length ≤ k
  | 0, n, h => by
    have : n = 0 := by simpa using h
    subst this
    rw [digs_zero]; exact Nat.le_refl _
  | k + 1, n, h => by
    rcases Nat.eq_zero_or_pos n with rfl | hn
    · rw [digs_zero]; exact Nat.zero_le _
    · rw [digs_step hn hB, List.length_cons]
      have := digs_len hB k (n / B) (by rw [Nat.div_lt_iff_lt_mul (by omega)]; rw [Nat.pow_succ] at h; exact h)
      omega
theorem digs_word {B n : Nat} (hB : 2 ≤ B) (hn : n < 18446744073709551616) : (digs B n).length ≤ 64 :=
  digs_len hB 64 n (Nat.lt_of_lt_of_le (show n < 2 ^ 64 from hn) (Nat.pow_le_pow_left hB 64))
theorem bigTop_two : bigTop = 2 ^ (32 * topW) := by
  unfold bigTop
  rw [show (4294967296 : Nat) = 2 ^ 32 from rfl, ← Nat.pow_mul]
theorem topW_eq : topW = 1000 := rfl
theorem digs_top {B n : Nat} (hB : 2 ≤ B) (hn : n < bigTop) : (digs B n).length ≤ 32000 := by
  have h := digs_len hB (32 * topW) n (Nat.lt_of_lt_of_le hn (by rw [bigTop_two]; exact Nat.pow_le_pow_left hB _))
  rw [topW_eq] at h
  omega
theorem ten_top {k : Nat} (h : k ≤ 6000) : 10 ^ k ≤ bigTop := by
  rw [bigTop_two]
  refine Nat.le_trans (Nat.pow_le_pow_left (show 10 ≤ 16 by omega) k) ?_
  rw [show (16 : Nat) = 2 ^ 4 from rfl, ← Nat.pow_mul]
  refine Nat.pow_le_pow_right (by omega) ?_
  rw [topW_eq]; omega
/-- The sign of a digit below 36. -/
def chr36 (r : Nat) : UInt8 := if r < 10 then UInt8.ofNat (48 + r) else UInt8.ofNat (97 + (r - 10))
theorem chr_low {r : Nat} (h : r < 10) : (chr36 r).toNat = 48 + r := by rw [chr36, if_pos h]; simp; omega
theorem chr_high {r : Nat} (h : ¬ r < 10) (h2 : r < 36) : (chr36 r).toNat = 97 + (r - 10) := by rw [chr36, if_neg h]; simp; omega
/-- A number's text in a base. -/
def numT (B n : Nat) : List UInt8 := if n = 0 then [48] else ((digs B n).map chr36).reverse
theorem numT_len {B n : Nat} (hB : 2 ≤ B) (hn : n < 18446744073709551616) : (numT B n).length ≤ 64 := by
  unfold numT
  split
  · simp
  · rw [List.length_reverse, List.length_map]; exact digs_word hB hn
theorem numT_pos (B n : Nat) (hB : 2 ≤ B) : 0 < (numT B n).length := by
  unfold numT
  split
  · simp
  · rw [List.length_reverse, List.length_map, digs_step (by omega) hB]; simp
theorem numT_dec (n : Nat) : numT 10 n = Lib.decDigits n := by
  induction n using Nat.strongRecOn with
  | ind n ih =>
    by_cases h : n < 10
    · rw [Lib.decDigits, dif_pos h, numT]
      split
      · next h0 => subst h0; rfl
      · rw [digs_step (by omega) (by omega), show n / 10 = 0 by omega, digs_zero, show n % 10 = n by omega]
        simp [chr36, h]
    · have hi := ih (n / 10) (by omega)
      rw [Lib.decDigits, dif_neg h, ← hi, numT, numT, if_neg (by omega), if_neg (by omega), digs_step (by omega) (by omega), List.map_cons, List.reverse_cons, chr36, if_pos (by omega)]
theorem decDigits_ge {n : Nat} (h : ¬ n < 10) : Lib.decDigits n = Lib.decDigits (n / 10) ++ [UInt8.ofNat (48 + n % 10)] := by rw [Lib.decDigits, dif_neg h]
/-! ### A list turned round, step by step -/
structure DigTurn (l L : List UInt8) (i : Nat) : Prop where
  len : L.length = l.length
  at_ : ∀ k, k < l.length → L[k]? = if k < i ∨ l.length ≤ k + i then l[l.length - 1 - k]? else l[k]?
theorem DigTurn.start (l : List UInt8) : DigTurn l l 0 := ⟨rfl, fun k h => by rw [if_neg (by omega)]⟩
theorem DigTurn.next {l L : List UInt8} {i : Nat} {x y : UInt8} (h : DigTurn l L i) (hi : i + 1 + i < l.length) (hx : L[i]? = some x) (hy : L[l.length - 1 - i]? = some y) :
    DigTurn l ((L.set i y).set (l.length - 1 - i) x) (i + 1) where
  len := by rw [List.length_set, List.length_set, h.len]
  at_ := fun k hk => by
    have hl := h.len
    rw [List.getElem?_set, List.length_set, List.getElem?_set]
    by_cases h1 : l.length - 1 - i = k
    · rw [if_pos h1, if_pos (by omega), if_pos (by omega), ← hx, h.at_ i (by omega), if_neg (by omega)]
      congr 1; omega
    · rw [if_neg h1]
      by_cases h2 : i = k
      · subst h2
        rw [if_pos rfl, if_pos (by omega), if_pos (by omega), ← hy, h.at_ _ (by omega), if_neg (by omega)]
      · rw [if_neg h2, h.at_ k hk]
        by_cases h3 : k < i ∨ l.length ≤ k + i
        · rw [if_pos h3, if_pos (by omega)]
        · rw [if_neg h3, if_neg (by omega)]
theorem DigTurn.ends {l L : List UInt8} {i : Nat} (h : DigTurn l L i) (hi : l.length ≤ i + 1 + i) : L = l.reverse := by
  refine List.ext_getElem? fun k => ?_
  by_cases hk : k < l.length
  · rw [h.at_ k hk, List.getElem?_reverse hk]
    by_cases h3 : k < i ∨ l.length ≤ k + i
    · rw [if_pos h3]
    · rw [if_neg h3]
      congr 1; omega
  · rw [List.getElem?_eq_none (by rw [h.len]; omega), List.getElem?_eq_none (by rw [List.length_reverse]; omega)]
/-! ### Dividing by one word -/
/-- The state of a division by one word: k words are still to come; the words of the quotient behind them; the rest. -/
structure DivSt (a Q : List Nat) (d k r : Nat) : Prop where
  len : Q.length = a.length - k
  lt : ∀ x ∈ Q, x < 4294967296
  rest : r < d
  val : valW (a.drop k) = d * valW Q + r
theorem DivSt.start (a : List Nat) {d : Nat} (hd : 0 < d) : DivSt a [] d a.length 0 := ⟨by simp, by simp, hd, by simp [valW]⟩
theorem DivSt.next {a Q : List Nat} {d k r x : Nat} (h : DivSt a Q d (k + 1) r) (hx : a[k]? = some x) (hx1 : x < 4294967296) (hk : k < a.length) :
    DivSt a ((r * 4294967296 + x) / d :: Q) d k ((r * 4294967296 + x) % d) where
  len := by rw [List.length_cons, h.len]; omega
  lt := fun z hz => by
    rcases List.mem_cons.1 hz with rfl | hz
    · have h1 := h.rest
      rw [Nat.div_lt_iff_lt_mul (by omega)]
      have : r * 4294967296 + 4294967296 ≤ d * 4294967296 := by rw [← Nat.succ_mul]; exact Nat.mul_le_mul_right _ h1
      rw [Nat.mul_comm 4294967296 d]
      omega
    · exact h.lt z hz
  rest := Nat.mod_lt _ (by have := h.rest; omega)
  val := by
    have hv := h.val
    have hm := Nat.div_add_mod (r * 4294967296 + x) d
    rw [List.drop_eq_getElem_cons hk, valW, valW, hv]
    have : a[k] = x := by rw [List.getElem?_eq_getElem hk] at hx; exact Option.some.inj hx
    rw [this, Nat.mul_add, Nat.mul_add, ← Nat.mul_assoc, Nat.mul_comm 4294967296 d, Nat.mul_assoc]
    have e : d * (4294967296 * valW Q) = 4294967296 * (d * valW Q) := by rw [← Nat.mul_assoc, Nat.mul_comm d 4294967296, Nat.mul_assoc]
    omega
theorem DivSt.ends {a Q : List Nat} {d r : Nat} (h : DivSt a Q d 0 r) : valW Q = valW a / d ∧ r = valW a % d ∧ Q.length = a.length := by
  have hv := h.val
  have hr := h.rest
  rw [List.drop_zero] at hv
  refine ⟨?_, ?_, by rw [h.len]; omega⟩
  · rw [hv, Nat.mul_add_div (by omega), Nat.div_eq_of_lt hr, Nat.add_zero]
  · rw [hv, Nat.mul_add_mod, Nat.mod_eq_of_lt hr]
end Go.Proofs.YtabhpbkkjijfjaaGreatDoor
namespace Go.Proofs.YtabhpbkkjijfjaaGreatDoor
set_option maxRecDepth 100000
open Go.RowKit Go.Shelf
def lit_ren : Go.Shelf.Ren := ⟨fun | 171 => 26 | 243 => 39 | 246 => 57 | 283 => 84 | 284 => 85 | 285 => 86 | 286 => 87 | 129 => 122 | 317 => 121 | 318 => 123 | 319 => 124 | 320 => 125 | 337 => 156 | 338 => 157 | n => n, fun | 3 => 3 | 9 => 9 | 2 => 2 | 4 => 4 | 171 => 166 | 0 => 0 | 53 => 167 | 37 => 51 | 5 => 5 | 173 => 170 | 212 => 217 | 51 => 175 | 20 => 20 | 213 => 218 | 46 => 212 | 232 => 273 | 233 => 274 | n => n, fun | 17 => 0 | 18 => 4 | 19 => 5 | n => n⟩
theorem lit : Go.Proofs.LaysM.n171 Tryz.prog lit_ren := {
  mixed := by kernel_rfl
  f129 := Tryz.func122.trans (congrArg some (by kernel_rfl))
  f171 := Tryz.func26.trans (congrArg some (by kernel_rfl))
  f243 := Tryz.func39.trans (congrArg some (by kernel_rfl))
  f246 := Tryz.func57.trans (congrArg some (by kernel_rfl))
  f283 := Tryz.func84.trans (congrArg some (by kernel_rfl))
  f284 := Tryz.func85.trans (congrArg some (by kernel_rfl))
  f285 := Tryz.func86.trans (congrArg some (by kernel_rfl))
  f286 := Tryz.func87.trans (congrArg some (by kernel_rfl))
  f317 := Tryz.func121.trans (congrArg some (by kernel_rfl))
  f318 := Tryz.func123.trans (congrArg some (by kernel_rfl))
  f319 := Tryz.func124.trans (congrArg some (by kernel_rfl))
  f320 := Tryz.func125.trans (congrArg some (by kernel_rfl))
  f337 := Tryz.func156.trans (congrArg some (by kernel_rfl))
  f338 := Tryz.func157.trans (congrArg some (by kernel_rfl))
  t0 := Tryz.underlying0
  a0 := Tryz.isAgg0
  z0 := Tryz.sizeOf0
  v0 := Tryz.zeroValue0
  t2 := Tryz.underlying2
  a2 := Tryz.isAgg2
  z2 := Tryz.sizeOf2
  v2 := Tryz.zeroValue2
  t3 := Tryz.underlying3
  a3 := Tryz.isAgg3
  z3 := Tryz.sizeOf3
  v3 := Tryz.zeroValue3
  t4 := Tryz.underlying4
  a4 := Tryz.isAgg4
  z4 := Tryz.sizeOf4
  v4 := Tryz.zeroValue4
  t5 := Tryz.underlying5
  a5 := Tryz.isAgg5
  z5 := Tryz.sizeOf5
  v5 := Tryz.zeroValue5
  t9 := Tryz.underlying9
  a9 := Tryz.isAgg9
  z9 := Tryz.sizeOf9
  v9 := Tryz.zeroValue9
  t20 := Tryz.underlying20
  a20 := Tryz.isAgg20
  z20 := Tryz.sizeOf20
  v20 := Tryz.zeroValue20
  t37 := Tryz.underlying51
  a37 := Tryz.isAgg51
  z37 := Tryz.sizeOf51
  v37 := Tryz.zeroValue51
  t46 := Tryz.underlying212
  a46 := Tryz.isAgg212
  z46 := Tryz.sizeOf212
  v46 := Tryz.zeroValue212
  t51 := Tryz.underlying175
  a51 := Tryz.isAgg175
  z51 := Tryz.sizeOf175
  v51 := Tryz.zeroValue175
  t53 := Tryz.underlying167
  a53 := Tryz.isAgg167
  z53 := Tryz.sizeOf167
  v53 := Tryz.zeroValue167
  t171 := Tryz.underlying166
  a171 := Tryz.isAgg166
  z171 := Tryz.sizeOf166
  v171 := Tryz.zeroValue166
  t173 := Tryz.underlying170
  a173 := Tryz.isAgg170
  z173 := Tryz.sizeOf170
  v173 := Tryz.zeroValue170
  t212 := Tryz.underlying217
  a212 := Tryz.isAgg217
  z212 := Tryz.sizeOf217
  v212 := Tryz.zeroValue217
  t213 := Tryz.underlying218
  a213 := Tryz.isAgg218
  z213 := Tryz.sizeOf218
  t232 := Tryz.underlying273
  a232 := Tryz.isAgg273
  z232 := Tryz.sizeOf273
  v232 := Tryz.zeroValue273
  t233 := Tryz.underlying274
  a233 := Tryz.isAgg274
  z233 := Tryz.sizeOf274
  v233 := Tryz.zeroValue274
  g17 := by kernel_rfl
  g18 := by kernel_rfl
  g19 := by kernel_rfl
  i0 := by kernel_rfl
  i2 := by kernel_rfl
  i3 := by kernel_rfl
  i4 := by kernel_rfl
  i5 := by kernel_rfl
  i9 := by kernel_rfl
  i20 := by kernel_rfl
  i37 := by kernel_rfl
  i46 := by kernel_rfl
  i51 := by kernel_rfl
  i53 := by kernel_rfl
  i171 := by kernel_rfl
  i173 := by kernel_rfl
  i212 := by kernel_rfl
  i232 := by kernel_rfl
  i233 := by kernel_rfl
  m17 := by kernel_rfl
  m18 := by kernel_rfl
  m19 := by kernel_rfl }

/-- The table of powers of ten reads as it is listed, whatever is done from block B on. -/
def Tab (B : Nat) (w : World) : Prop := Lib.TabBelow Tryz.prog B w "internal/strconv.uint64pow10" .u64 Lib.pow10Tab
theorem Tab.on {B : Nat} {w w' : World} (h : Tab B w) (hb : Below B w w') : Tab B w' := Lib.TabBelow.on h hb
theorem Tab.up {B C : Nat} {w w' : World} (h : Tab B w) (hb : Below C w w') (hc : B ≤ C) : Tab B w' := h.on (hb.mono hc)
theorem itoa_any (B n : Nat) (w : World) (hn : n < 9223372036854775808) (ht : Tab B w) :
    Calls Tryz.prog 26 #[.int .i64 n] w fun e w' => e = .returned (.string (txt (Lib.decDigits n))) ∧ Below w.heap.size w w' := by
  have h := Any.strconv_Itoa lit (n : Int) (by omega) (by omega) w ht.here
  change Calls Tryz.prog 26 _ _ _ at h
  refine h.mono ?_
  rintro e w' ⟨rfl, k, os, rfl⟩
  refine ⟨?_, Lib.below_grow _ _ (Nat.le_refl _) _ _⟩
  rw [Lib.itoa_nonneg]
  rfl
end Go.Proofs.YtabhpbkkjijfjaaGreatDoor
namespace Go.Proofs.YtabhpbkkjijfjaaGreatDoor
set_option maxRecDepth 100000
open Go.RowKit

set_option maxHeartbeats 4000000 in
set_option maxRecDepth 100000 in
theorem tell_four (B0 : Nat) (w : World) (ht : Tab B0 w) (hB0 : B0 ≤ w.heap.size) :
    Calls Tryz.prog 38 #[.int .i64 0, .agg #[.int .i64 4, .int .i64 0, .int .i64 0, .int .i64 0, .int .i64 0, .int .i64 0, .int .i64 0, .int .i64 0, .string ⟨#[]⟩, .slice none 0 0]] w fun e w' =>
      e = .returned (.tuple #[.string (txt [110, 111, 32, 52]), .int .i64 0]) ∧ Below w.heap.size w w' := by
  obtain ⟨X, hX⟩ : ∃ X, X = w.alloc (.cells #[.int .i64 4, .int .i64 0, .int .i64 0, .int .i64 0, .int .i64 0, .int .i64 0, .int .i64 0, .int .i64 0, .string ⟨#[]⟩, .slice none 0 0] 109 (0, 0)) := ⟨_, rfl⟩
  have hbX : Below w.heap.size w X := by rw [hX]; exact (Below.refl _ _).alloc (Nat.le_refl _) _
  have HI := Lib.hid (itoa_any B0 4 X (by omega) (ht.up hbX hB0))
  have e4 : txt (Lib.decDigits 4) = ({ data := #[52] } : ByteArray) := by rw [Lib.decDigits_one (by omega)]; rfl
  rw [e4, hX] at HI
  rw [hX] at hbX
  have HBX := Lib.hid hbX
  clear hX hbX e4
  go_enter Tryz.func38, Tryz.ntmps38
  go_wp2_with fail
  refine HI.out.mono ?_
  rintro e w1 ⟨rfl, hb1⟩
  have HB := Lib.hid (HBX.out.trans (hb1.mono HBX.out.size))
  clear hb1
  go_wp2_with fail
  go_ret2
  exact ⟨rfl, HB.out⟩
end Go.Proofs.YtabhpbkkjijfjaaGreatDoor
