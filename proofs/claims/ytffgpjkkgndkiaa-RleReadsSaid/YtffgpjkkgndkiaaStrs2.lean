/-
  Library calls on texts: strings.HasPrefix, strings.CutPrefix.
-/
import Derived.Test.YtffgpjkkgndkiaaStrs
namespace Go.Proofs.Ytffgpjkkgndkiaa
set_option maxRecDepth 100000
open Go.RowKit

theorem hasPrefix_any (l p : List UInt8) (w : World) (hl : l.length ≤ 140737488351232) (hp : p.length ≤ 1000) :
    Calls Try.prog 49 #[.string (txt l), .string (txt p)] w fun e w' => e = .returned (.bool (preB p l)) ∧ w' = w := by
  have H := Lib.hid (litePrefix_any l p w hl hp)
  obtain ⟨S, hS⟩ : ∃ S, S = txt l := ⟨_, rfl⟩
  obtain ⟨T, hT⟩ : ∃ T, T = txt p := ⟨_, rfl⟩
  obtain ⟨q, hq⟩ : ∃ q, q = preB p l := ⟨_, rfl⟩
  rw [← hS, ← hT, ← hq] at H
  rw [← hS, ← hT, ← hq]
  clear hS hT hq
  go_enter Try.func49, Try.ntmps49
  go_wp2_with fail
  refine H.out.mono ?_
  rintro e w' ⟨rfl, rfl⟩
  go_wp2_with fail
  go_ret
  exact ⟨rfl, rfl⟩
def cutPre (p l : List UInt8) : List UInt8 × Bool := if preB p l = true then (l.drop p.length, true) else (l, false)
set_option maxHeartbeats 1000000 in
theorem liteCutPrefix_any (l p : List UInt8) (w : World) (hl : l.length ≤ 140737488351232) (hp : p.length ≤ 1000) :
    Calls Try.prog 128 #[.string (txt l), .string (txt p)] w fun e w' => e = .returned (.tuple #[.string (txt (cutPre p l).1), .bool (cutPre p l).2]) ∧ w' = w := by
  have h := litePrefix_any l p w hl hp
  obtain ⟨S, hS⟩ : ∃ S, S = txt l := ⟨_, rfl⟩
  obtain ⟨T, hT⟩ : ∃ T, T = txt p := ⟨_, rfl⟩
  have hn : S.size = l.length := by rw [hS, txt_size]
  have ht : T.size = p.length := by rw [hT, txt_size]
  by_cases hq : preB p l = true
  · have hle := (preB_iff.1 hq).1
    have ha : cutPre p l = (l.drop p.length, true) := by rw [cutPre, if_pos hq]
    have hx : S.extract p.length l.length = txt (l.drop p.length) := by rw [hS, extract_list, List.take_length]
    rw [hq, ← hS, ← hT] at h
    have H := Lib.hid h
    rw [ha]
    dsimp only
    obtain ⟨n, hN⟩ : ∃ n, n = l.length := ⟨_, rfl⟩
    obtain ⟨m, hM⟩ : ∃ m, m = p.length := ⟨_, rfl⟩
    rw [← hN, ← hM] at hx hle
    rw [← hN] at hn hl
    rw [← hM] at ht hp
    rw [← hM, ← hx, ← hS, ← hT]
    clear hS hT hq ha hx hN hM h
    go_enter Try.func128, Try.ntmps128
    go_wp2_with fail
    refine H.out.mono ?_
    rintro e w' ⟨rfl, rfl⟩
    go_wp2_with fail
    refine bodyPost_ret (v := .tuple #[.string (S.extract m n), .bool true]) (by simp [results, Try.results128, go_sem]) rfl ⟨rfl, rfl⟩
  · have hq' : preB p l = false := by simpa using hq
    have ha : cutPre p l = (l, false) := by rw [cutPre, if_neg hq]
    rw [hq', ← hS, ← hT] at h
    have H := Lib.hid h
    rw [ha]
    dsimp only
    rw [← hS, ← hT]
    clear hS hT hq hq' ha hn ht h
    go_enter Try.func128, Try.ntmps128
    go_wp2_with fail
    refine H.out.mono ?_
    rintro e w' ⟨rfl, rfl⟩
    go_wp2_with fail
    refine bodyPost_ret (v := .tuple #[.string S, .bool false]) (by simp [results, Try.results128, go_sem]) rfl ⟨rfl, rfl⟩
set_option maxHeartbeats 1000000 in
theorem cutPrefix_any (l p : List UInt8) (w : World) (hl : l.length ≤ 140737488351232) (hp : p.length ≤ 1000) :
    Calls Try.prog 100 #[.string (txt l), .string (txt p)] w fun e w' => e = .returned (.tuple #[.string (txt (cutPre p l).1), .bool (cutPre p l).2]) ∧ w' = w := by
  have H := Lib.hid (liteCutPrefix_any l p w hl hp)
  obtain ⟨S, hS⟩ : ∃ S, S = txt l := ⟨_, rfl⟩
  obtain ⟨T, hT⟩ : ∃ T, T = txt p := ⟨_, rfl⟩
  obtain ⟨A, hA⟩ : ∃ A, A = txt (cutPre p l).1 := ⟨_, rfl⟩
  obtain ⟨q, hq⟩ : ∃ q, q = (cutPre p l).2 := ⟨_, rfl⟩
  rw [← hS, ← hT, ← hq, ← hA] at H
  rw [← hS, ← hT, ← hq, ← hA]
  clear hS hT hq hA
  go_enter Try.func100, Try.ntmps100
  go_wp2_with fail
  refine H.out.mono ?_
  rintro e w' ⟨rfl, rfl⟩
  go_wp2_with fail
  refine bodyPost_ret (v := .tuple #[.string A, .bool q]) (by simp [results, Try.results100, go_sem]) rfl ⟨rfl, rfl⟩
end Go.Proofs.Ytffgpjkkgndkiaa
