/-
  Library calls on texts: IndexByte, Index and Cut at one byte, HasPrefix, CutPrefix.
-/
import Derived.Lib.Bytealg
import Derived.Laws.Externs
import Derived.Test.YtdmamecfmfhlmaaGreatDoorZSpeechWrites10
namespace Go.Proofs.YtdmamecfmfhlmaaGreatDoor
set_option maxRecDepth 100000
open Go.RowKit

/-- A list of bytes, cut at the first c. -/
def cutL (c : UInt8) : List UInt8 → Option (List UInt8 × List UInt8)
  | [] => none
  | b :: r => if b = c then some ([], r) else (cutL c r).map fun p => (b :: p.1, p.2)
theorem cutL_index (c : UInt8) : ∀ l : List UInt8, (Lib.indexByte l c = -1 ∧ cutL c l = none) ∨ ∃ i : Nat, Lib.indexByte l c = i ∧ i < l.length ∧ cutL c l = some (l.take i, l.drop (i + 1))
  | [] => .inl ⟨rfl, rfl⟩
  | b :: r => by
    by_cases h : b = c
    · subst h
      exact .inr ⟨0, by simp [Lib.indexByte], by simp, by simp [cutL]⟩
    · have hb : (b == c) = false := by simpa using h
      rcases cutL_index c r with ⟨h1, h2⟩ | ⟨i, h1, h2, h3⟩
      · exact .inl ⟨by simp [Lib.indexByte, hb, h1], by simp [cutL, h, h2]⟩
      · have hi : ((i : Int) == -1) = false := by simp <;> omega
        exact .inr ⟨i + 1, by simp [Lib.indexByte, hb, h1, hi], by simp; omega, by simp [cutL, h, h3]⟩
theorem byte_back (c : UInt8) : ((c.toNat : Int)).toNat.toUInt8 = c := by
  rw [Int.toNat_natCast]
  exact UInt8.ofNat_toNat
theorem liteIndexByte_any (l : List UInt8) (c : UInt8) (w : World) :
    Calls Tryz.prog 83 #[.string (txt l), .int .u8 c.toNat] w fun e w' => e = .returned (.int .i64 (Lib.indexByte l c)) ∧ w' = w := by
  obtain ⟨S, hS⟩ : ∃ S, S = txt l := ⟨_, rfl⟩
  rw [← hS]
  obtain ⟨b, hb⟩ : ∃ b : Int, b = c.toNat := ⟨_, rfl⟩
  rw [← hb]
  obtain ⟨r, hr⟩ : ∃ r, r = Lib.indexByte l c := ⟨_, rfl⟩
  have e : ∀ w : World, (Extern.BytealgIndexByte.indexByte #[.string S, .int .u8 b]).run Tryz.prog w = .ok (.int .i64 r) w := fun w => by rw [Lib.run_indexByteString, hS, txt_data, hb, byte_back, hr]
  rw [← hr]
  have E := Lib.hid e
  clear e hS hb hr
  go_enter Tryz.func83, Tryz.ntmps83
  go_wp2
  rw [run_callFunc_extern Tryz.func93 (by kernel_rfl) (by kernel_rfl) (by kernel_rfl) (e := Extern.BytealgIndexByte.indexByte) (by kernel_rfl), E.out]
  simp only [Result.andThen]
  rw [Oper.upon_value]
  go_wp2
  go_ret
  exact ⟨rfl, rfl⟩
set_option maxHeartbeats 1000000 in
theorem liteIndex_any (l : List UInt8) (c : UInt8) (w : World) :
    Calls Tryz.prog 75 #[.string (txt l), .string (txt [c])] w fun e w' => e = .returned (.int .i64 (Lib.indexByte l c)) ∧ w' = w := by
  have H := Lib.hid (liteIndexByte_any l c)
  obtain ⟨S, hS⟩ : ∃ S, S = txt l := ⟨_, rfl⟩
  rw [← hS] at H ⊢
  obtain ⟨T, hT, t1, t2, _, t3, t4, t5⟩ := txt_cons c []
  rw [← hT]
  simp only [List.length_nil, Nat.zero_add] at t3
  obtain ⟨b, hb⟩ : ∃ b, b = c.toNat := ⟨_, rfl⟩
  rw [← hb] at t5 H
  by_cases hl : l = [c]
  · have hst : (T.toList == S.toList) = true := by rw [hT, hS, hl]; simp
    have h0 : Lib.indexByte l c = 0 := by rw [hl]; simp [Lib.indexByte]
    have H0 := Lib.hid h0
    clear hS hT hb t1 t2 hl h0
    go_enter Tryz.func75, Tryz.ntmps75
    go_wp2_with fail
    go_ret
    exact ⟨by rw [H0.out]; rfl, rfl⟩
  · have hst : (T.toList == S.toList) = false := by
      rw [hT, hS, txt_toList, txt_toList]
      simpa using fun h => hl h.symm
    clear hS hT hb t1 t2 hl
    go_enter Tryz.func75, Tryz.ntmps75
    go_wp2_with fail
    refine (H.out _).mono ?_
    rintro e w' ⟨rfl, rfl⟩
    go_wp2_with fail
    go_ret
    exact ⟨rfl, rfl⟩
def cutAns (l : List UInt8) (c : UInt8) : List UInt8 × List UInt8 × Bool := match cutL c l with
  | none => (l, [], false)
  | some p => (p.1, p.2, true)
set_option maxHeartbeats 1000000 in
theorem liteCut_any (l : List UInt8) (c : UInt8) (w : World) (hl : l.length ≤ 140737488351232) :
    Calls Tryz.prog 56 #[.string (txt l), .string (txt [c])] w fun e w' => e = .returned (.tuple #[.string (txt (cutAns l c).1), .string (txt (cutAns l c).2.1), .bool (cutAns l c).2.2]) ∧ Below w.heap.size w w' := by
  have H := Lib.hid (liteIndex_any l c)
  obtain ⟨S, hS⟩ : ∃ S, S = txt l := ⟨_, rfl⟩
  obtain ⟨T, hT⟩ : ∃ T, T = txt [c] := ⟨_, rfl⟩
  have hn : S.size = l.length := by rw [hS, txt_size]
  have ht : T.size = 1 := by rw [hT, txt_size]; rfl
  rcases cutL_index c l with ⟨h1, h2⟩ | ⟨i, h1, h2, h3⟩
  · have ha : cutAns l c = (l, [], false) := by rw [cutAns, h2]
    rw [ha]
    rw [h1] at H
    dsimp only
    rw [← hS, ← hT] at H
    rw [← hS, ← hT]
    clear hS hT h1 h2 ha hn ht
    go_enter Tryz.func56, Tryz.ntmps56
    go_wp2_with fail
    refine (H.out _).mono ?_
    rintro e w' ⟨rfl, rfl⟩
    go_wp2_with fail
    refine bodyPost_ret (v := .tuple #[.string S, .string ⟨#[]⟩, .bool false]) (by simp [results, Tryz.results56, go_sem]) rfl ⟨rfl, Below.refl _ _⟩
  · have ha : cutAns l c = (l.take i, l.drop (i + 1), true) := by rw [cutAns, h3]
    rw [ha]
    rw [h1] at H
    dsimp only
    have x1 : S.extract 0 i = txt (l.take i) := by rw [hS, extract_list, List.drop_zero]
    have x2 : S.extract (i + 1) l.length = txt (l.drop (i + 1)) := by rw [hS, extract_list, List.take_length]
    obtain ⟨n, hN⟩ : ∃ n, n = l.length := ⟨_, rfl⟩
    rw [← hN] at x2 hn hl h2
    rw [← hS, ← hT] at H
    rw [← hS, ← hT, ← x1, ← x2]
    clear hS hT h1 h3 ha x1 x2 hN
    go_enter Tryz.func56, Tryz.ntmps56
    go_wp2_with fail
    refine (H.out _).mono ?_
    rintro e w' ⟨rfl, rfl⟩
    go_wp2_with fail
    go_region
    go_wp2_with fail
    refine bodyPost_ret (v := .tuple #[.string (S.extract 0 i), .string (S.extract (i + 1) n), .bool true]) (by simp [results, Tryz.results56, go_sem]) rfl ⟨rfl, (Below.refl _ _).drew⟩
set_option maxHeartbeats 1000000 in
theorem cut_any (l : List UInt8) (c : UInt8) (w : World) (hl : l.length ≤ 140737488351232) :
    Calls Tryz.prog 40 #[.string (txt l), .string (txt [c])] w fun e w' => e = .returned (.tuple #[.string (txt (cutAns l c).1), .string (txt (cutAns l c).2.1), .bool (cutAns l c).2.2]) ∧ Below w.heap.size w w' := by
  have H := Lib.hid (liteCut_any l c w hl)
  obtain ⟨S, hS⟩ : ∃ S, S = txt l := ⟨_, rfl⟩
  obtain ⟨T, hT⟩ : ∃ T, T = txt [c] := ⟨_, rfl⟩
  obtain ⟨A, hA⟩ : ∃ A, A = txt (cutAns l c).1 := ⟨_, rfl⟩
  obtain ⟨B, hB⟩ : ∃ B, B = txt (cutAns l c).2.1 := ⟨_, rfl⟩
  obtain ⟨C, hC⟩ : ∃ C, C = (cutAns l c).2.2 := ⟨_, rfl⟩
  rw [← hS, ← hT, ← hA, ← hB, ← hC] at H
  rw [← hS, ← hT, ← hA, ← hB, ← hC]
  clear hS hT hA hB hC
  go_enter Tryz.func40, Tryz.ntmps40
  go_wp2_with fail
  refine H.out.mono ?_
  rintro e w' ⟨rfl, hb⟩
  go_wp2_with fail
  refine bodyPost_ret (v := .tuple #[.string A, .string B, .bool C]) (by simp [results, Tryz.results40, go_sem]) rfl ⟨rfl, hb⟩
def preB (p l : List UInt8) : Bool := p.isPrefixOf l
theorem preB_iff {p l : List UInt8} : preB p l = true ↔ p.length ≤ l.length ∧ l.take p.length = p := by
  rw [preB, List.isPrefixOf_iff_prefix, List.prefix_iff_eq_take]
  constructor
  · intro h
    refine ⟨?_, h.symm⟩
    have := congrArg List.length h
    rw [List.length_take] at this
    omega
  · rintro ⟨_, h⟩; exact h.symm
set_option maxHeartbeats 1000000 in
theorem litePrefix_any (l p : List UInt8) (w : World) (hl : l.length ≤ 140737488351232) (hp : p.length ≤ 1000) :
    Calls Tryz.prog 87 #[.string (txt l), .string (txt p)] w fun e w' => e = .returned (.bool (preB p l)) ∧ w' = w := by
  obtain ⟨S, hS⟩ : ∃ S, S = txt l := ⟨_, rfl⟩
  obtain ⟨T, hT⟩ : ∃ T, T = txt p := ⟨_, rfl⟩
  have hn : S.size = l.length := by rw [hS, txt_size]
  have ht : T.size = p.length := by rw [hT, txt_size]
  by_cases hle : p.length ≤ l.length
  · have hx : ((S.extract 0 p.length).toList == T.toList) = preB p l := by
      rw [hS, hT, extract_list, List.drop_zero, txt_toList, txt_toList, Bool.eq_iff_iff, beq_iff_eq, preB_iff]
      exact ⟨fun h => ⟨hle, h⟩, fun h => h.2⟩
    obtain ⟨q, hq⟩ : ∃ q, q = preB p l := ⟨_, rfl⟩
    obtain ⟨n, hN⟩ : ∃ n, n = l.length := ⟨_, rfl⟩
    obtain ⟨m, hM⟩ : ∃ m, m = p.length := ⟨_, rfl⟩
    rw [← hq, ← hM] at hx
    rw [← hN] at hn hl hle
    rw [← hM] at ht hp hle
    rw [← hS, ← hT, ← hq]
    clear hS hT hq hN hM
    go_enter Tryz.func87, Tryz.ntmps87
    go_wp2_with fail
    go_ret
    exact ⟨by simp [hx], rfl⟩
  · have hx : preB p l = false := Bool.eq_false_iff.2 fun h => hle (preB_iff.1 h).1
    obtain ⟨n, hN⟩ : ∃ n, n = l.length := ⟨_, rfl⟩
    obtain ⟨m, hM⟩ : ∃ m, m = p.length := ⟨_, rfl⟩
    rw [← hN] at hn hl hle
    rw [← hM] at ht hp hle
    rw [← hS, ← hT, hx]
    clear hS hT hN hM hx
    go_enter Tryz.func87, Tryz.ntmps87
    go_wp2_with fail
    go_ret
    exact ⟨rfl, rfl⟩
end Go.Proofs.YtdmamecfmfhlmaaGreatDoor
