/-
  strconv.Itoa at a number that is not negative, wherever the library's table of powers of ten reads as it is listed; A request's line, plain; numbers' texts.
-/
import Derived.Shelf.Strconv.Itoa3
import Derived.Lib.AppendIntMem
import Derived.Lib.LaidTab
import Derived.Test.YtdmamecfmfhlmaaGreatDoorZSpeechWrites10
import Derived.Test.YtdmamecfmfhlmaaGreatDoorZSpeechWritesDigMath
import Derived.Test.YtdmamecfmfhlmaaGreatDoorZSpeechWritesAskMath
import Derived.Test.YtdmamecfmfhlmaaGreatDoorZSpeechWritesRuleTxt
import Derived.Test.YtdmamecfmfhlmaaGreatDoorZSpeechWritesBigNeg
namespace Go.Proofs.YtdmamecfmfhlmaaGreatDoor
set_option maxRecDepth 100000
open Go.RowKit Go.Shelf
def lit_ren : Go.Shelf.Ren := ⟨fun | 171 => 8 | 243 => 18 | 246 => 35 | 283 => 48 | 284 => 49 | 285 => 50 | 286 => 51 | 129 => 68 | 317 => 67 | 318 => 69 | 319 => 70 | 320 => 71 | 337 => 80 | 338 => 81 | n => n, fun | 3 => 3 | 9 => 9 | 2 => 2 | 4 => 4 | 171 => 76 | 0 => 0 | 53 => 77 | 37 => 42 | 5 => 5 | 173 => 80 | 212 => 102 | 51 => 94 | 20 => 20 | 213 => 103 | 46 => 62 | 232 => 119 | 233 => 120 | n => n, fun | 17 => 3 | 18 => 5 | 19 => 6 | n => n⟩
theorem lit : Go.Proofs.LaysM.n171 Tryz.prog lit_ren := {
  mixed := by kernel_rfl
  f129 := Tryz.func68.trans (congrArg some (by kernel_rfl))
  f171 := Tryz.func8.trans (congrArg some (by kernel_rfl))
  f243 := Tryz.func18.trans (congrArg some (by kernel_rfl))
  f246 := Tryz.func35.trans (congrArg some (by kernel_rfl))
  f283 := Tryz.func48.trans (congrArg some (by kernel_rfl))
  f284 := Tryz.func49.trans (congrArg some (by kernel_rfl))
  f285 := Tryz.func50.trans (congrArg some (by kernel_rfl))
  f286 := Tryz.func51.trans (congrArg some (by kernel_rfl))
  f317 := Tryz.func67.trans (congrArg some (by kernel_rfl))
  f318 := Tryz.func69.trans (congrArg some (by kernel_rfl))
  f319 := Tryz.func70.trans (congrArg some (by kernel_rfl))
  f320 := Tryz.func71.trans (congrArg some (by kernel_rfl))
  f337 := Tryz.func80.trans (congrArg some (by kernel_rfl))
  f338 := Tryz.func81.trans (congrArg some (by kernel_rfl))
  t0 := Tryz.underlying0
  a0 := Tryz.isAgg0
  z0 := Tryz.sizeOf0
  v0 := Tryz.zeroValue0
  t2 := Tryz.underlying2
  a2 := Tryz.isAgg2
  z2 := Tryz.sizeOf2
  v2 := Tryz.zeroValue2
  t3 := Tryz.underlying3
  a3 := Tryz.isAgg3
  z3 := Tryz.sizeOf3
  v3 := Tryz.zeroValue3
  t4 := Tryz.underlying4
  a4 := Tryz.isAgg4
  z4 := Tryz.sizeOf4
  v4 := Tryz.zeroValue4
  t5 := Tryz.underlying5
  a5 := Tryz.isAgg5
  z5 := Tryz.sizeOf5
  v5 := Tryz.zeroValue5
  t9 := Tryz.underlying9
  a9 := Tryz.isAgg9
  z9 := Tryz.sizeOf9
  v9 := Tryz.zeroValue9
  t20 := Tryz.underlying20
  a20 := Tryz.isAgg20
  z20 := Tryz.sizeOf20
  v20 := Tryz.zeroValue20
  t37 := Tryz.underlying42
  a37 := Tryz.isAgg42
  z37 := Tryz.sizeOf42
  v37 := Tryz.zeroValue42
  t46 := Tryz.underlying62
  a46 := Tryz.isAgg62
  z46 := Tryz.sizeOf62
  v46 := Tryz.zeroValue62
  t51 := Tryz.underlying94
  a51 := Tryz.isAgg94
  z51 := Tryz.sizeOf94
  v51 := Tryz.zeroValue94
  t53 := Tryz.underlying77
  a53 := Tryz.isAgg77
  z53 := Tryz.sizeOf77
  v53 := Tryz.zeroValue77
  t171 := Tryz.underlying76
  a171 := Tryz.isAgg76
  z171 := Tryz.sizeOf76
  v171 := Tryz.zeroValue76
  t173 := Tryz.underlying80
  a173 := Tryz.isAgg80
  z173 := Tryz.sizeOf80
  v173 := Tryz.zeroValue80
  t212 := Tryz.underlying102
  a212 := Tryz.isAgg102
  z212 := Tryz.sizeOf102
  v212 := Tryz.zeroValue102
  t213 := Tryz.underlying103
  a213 := Tryz.isAgg103
  z213 := Tryz.sizeOf103
  t232 := Tryz.underlying119
  a232 := Tryz.isAgg119
  z232 := Tryz.sizeOf119
  v232 := Tryz.zeroValue119
  t233 := Tryz.underlying120
  a233 := Tryz.isAgg120
  z233 := Tryz.sizeOf120
  v233 := Tryz.zeroValue120
  g17 := by kernel_rfl
  g18 := by kernel_rfl
  g19 := by kernel_rfl
  i0 := by kernel_rfl
  i2 := by kernel_rfl
  i3 := by kernel_rfl
  i4 := by kernel_rfl
  i5 := by kernel_rfl
  i9 := by kernel_rfl
  i20 := by kernel_rfl
  i37 := by kernel_rfl
  i46 := by kernel_rfl
  i51 := by kernel_rfl
  i53 := by kernel_rfl
  i171 := by kernel_rfl
  i173 := by kernel_rfl
  i212 := by kernel_rfl
  i232 := by kernel_rfl
  i233 := by kernel_rfl
  m17 := by kernel_rfl
  m18 := by kernel_rfl
  m19 := by kernel_rfl }

/-- The table of powers of ten reads as it is listed, whatever is done from block B on. -/
def Tab (B : Nat) (w : World) : Prop := Lib.TabBelow Tryz.prog B w "internal/strconv.uint64pow10" .u64 Lib.pow10Tab
theorem Tab.on {B : Nat} {w w' : World} (h : Tab B w) (hb : Below B w w') : Tab B w' := Lib.TabBelow.on h hb
theorem Tab.up {B C : Nat} {w w' : World} (h : Tab B w) (hb : Below C w w') (hc : B ≤ C) : Tab B w' := h.on (hb.mono hc)
theorem itoa_any (B n : Nat) (w : World) (hn : n < 9223372036854775808) (ht : Tab B w) :
    Calls Tryz.prog 8 #[.int .i64 n] w fun e w' => e = .returned (.string (txt (Lib.decDigits n))) ∧ Below w.heap.size w w' := by
  have h := Any.strconv_Itoa lit (n : Int) (by omega) (by omega) w ht.here
  change Calls Tryz.prog 8 _ _ _ at h
  refine h.mono ?_
  rintro e w' ⟨rfl, k, os, rfl⟩
  refine ⟨?_, Lib.below_grow _ _ (Nat.le_refl _) _ _⟩
  rw [Lib.itoa_nonneg]
  rfl
end Go.Proofs.YtdmamecfmfhlmaaGreatDoor
namespace Go.Proofs.YtdmamecfmfhlmaaGreatDoor
set_option maxRecDepth 100000
open Go.RowKit

/-- A number's text. -/
def numL (n : Int) : List UInt8 := Lib.itoa n
theorem decW_len {n : Nat} (hn : n < 18446744073709551616) : (Lib.decDigits n).length ≤ 64 := by rw [← numT_dec]; exact numT_len (by omega) hn
theorem numL_len {n : Int} (h : I64 n) : (numL n).length ≤ 65 := by
  unfold I64 at h
  unfold numL Lib.itoa
  split
  · rw [List.length_cons]
    have := decW_len (n := n.natAbs) (by omega)
    omega
  · have := decW_len (n := n.toNat) (by omega)
    omega
theorem itoaW_any (B : Nat) (n : Int) (w : World) (hn : I64 n) (ht : Tab B w) :
    Calls Tryz.prog 8 #[.int .i64 n] w fun e w' => e = .returned (.string (txt (numL n))) ∧ Below w.heap.size w w' := by
  have h := Any.strconv_Itoa lit n hn.1 hn.2 w ht.here
  change Calls Tryz.prog 8 _ _ _ at h
  refine h.mono ?_
  rintro e w' ⟨rfl, k, os, rfl⟩
  exact ⟨rfl, Lib.below_grow _ _ (Nat.le_refl _) _ _⟩
theorem decimalW_any (n : Int) (w : World) (hn : I64 n) :
    Calls Tryz.prog 13 #[.int .i64 n] w fun e w' => e = .returned (.string (txt (numL n))) ∧ Below w.heap.size w w' := by
  unfold I64 at hn
  by_cases h : n < 0
  · have h1 := decimal_neg n.natAbs w (by omega) (by omega)
    rw [show -((n.natAbs : Nat) : Int) = n by omega] at h1
    have e : numL n = 45 :: Lib.decDigits n.natAbs := by rw [numL, Lib.itoa, if_pos h]
    rw [e]; exact h1
  · obtain ⟨m, rfl⟩ := Int.eq_ofNat_of_zero_le (show 0 ≤ n by omega)
    have h1 := decimal_any m w (by omega)
    have e : numL (m : Int) = Lib.decDigits m := by rw [numL, Lib.itoa, if_neg h, Int.toNat_natCast]
    rw [e]; exact h1
/-- A rule's text, or nothing. -/
def ruleL (b l : Int) : List UInt8 := if goodF b l = true then textF b l else []
theorem ruleL_len (b l : Int) : (ruleL b l).length ≤ 30 := by
  unfold ruleL
  split
  · have h1 := digF_le b
    have h2 := digF_le l
    unfold textF
    simp only [List.length_append, List.length_cons, List.length_nil]
    omega
  · simp
theorem ruleT_any (b l : Int) (w : World) :
    Calls Tryz.prog 7 #[.agg #[.int .i64 b, .int .i64 l]] w fun e w' => e = .returned (.tuple #[.string (txt (ruleL b l)), .int .i64 (if goodF b l = true then 0 else 3)]) ∧ Below w.heap.size w w' := by
  by_cases h : goodF b l = true
  · unfold ruleL
    rw [if_pos h, if_pos h]
    exact text_yes b l w h
  · unfold ruleL
    rw [if_neg h, if_neg h]
    exact text_no b l w (Bool.eq_false_iff.2 h)
theorem refRuleT_any (b l : Int) (w : World) :
    Calls Tryz.prog 12 #[.agg #[.int .i64 b, .int .i64 l]] w fun e w' => e = .returned (.tuple #[.string (txt (ruleL b l)), .int .i64 (if goodF b l = true then 0 else 3)]) ∧ Below w.heap.size w w' := by
  by_cases h : goodF b l = true
  · unfold ruleL
    rw [if_pos h, if_pos h]
    exact refText_yes b l w h
  · unfold ruleL
    rw [if_neg h, if_neg h]
    exact refText_no b l w (Bool.eq_false_iff.2 h)
theorem digF_len (m : Int) : (digF m).length ≤ 9 := digF_le m
def cellL (c : Int × Int) : List UInt8 := 32 :: (numL c.1 ++ 44 :: numL c.2)
def cellsL (zs : List (Int × Int)) : List UInt8 := zs.flatMap cellL
theorem cellL_len {c : Int × Int} (h : GoodCell c) : (cellL c).length ≤ 132 := by
  unfold cellL
  have h1 := numL_len h.1
  have h2 := numL_len h.2
  simp only [List.length_cons, List.length_append]
  omega
theorem cellsL_len : ∀ {zs : List (Int × Int)}, (∀ z ∈ zs, GoodCell z) → (cellsL zs).length ≤ 132 * zs.length
  | [], _ => by simp [cellsL]
  | z :: r, h => by
    have h1 := cellL_len (h z (List.mem_cons_self ..))
    have h2 := cellsL_len (zs := r) (fun c hc => h c (List.mem_cons_of_mem _ hc))
    unfold cellsL at h2 ⊢
    rw [List.flatMap_cons, List.length_append, List.length_cons]
    omega
theorem cellsL_snoc (zs : List (Int × Int)) (z : Int × Int) : cellsL (zs ++ [z]) = cellsL zs ++ cellL z := by
  unfold cellsL
  rw [List.flatMap_append]
  simp
/-- What stands behind the name. -/
def tailL (k : Nat) (q : Ask) : List UInt8 := if k = 1 then 32 :: ruleL q.b q.l else if k = 2 then cellsL q.cells else if k = 4 ∨ k = 9 then 32 :: numL q.n else if k = 8 then 32 :: q.other else []
def headL (k : Nat) (q : Ask) : List UInt8 := if k = 10 then verbT k else verbT k ++ 32 :: q.name
def lineL (k : Nat) (q : Ask) : List UInt8 := headL k q ++ tailL k q
def sameA (a b : Ask) : Bool := decide (a.verb = b.verb) && decide (a.name = b.name) && decide (a.other = b.other) && decide (a.b = b.b) && decide (a.l = b.l) && decide (a.n = b.n) && decide (a.cells = b.cells)
/-- A request's line and its error, of the line's text. -/
def writeT (L : List UInt8) (q : Ask) : List UInt8 × Int := if (askF L).1 ≠ 0 then ([], (askF L).1) else if sameA (askF L).2 q = true then (L, 0) else ([], 2)
def writeF (q : Ask) : List UInt8 × Int := if q.verb < 1 ∨ 10 < q.verb then ([], 4) else writeT (lineL q.verb.toNat q) q
end Go.Proofs.YtdmamecfmfhlmaaGreatDoor
