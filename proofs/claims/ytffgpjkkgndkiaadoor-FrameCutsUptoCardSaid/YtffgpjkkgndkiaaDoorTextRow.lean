/-
  Rows of texts of one's own; two of them compared.
-/
import Derived.Test.YtffgpjkkgndkiaaDoorTexts
import Derived.Test.YtffgpjkkgndkiaaDoorFoot
namespace Go.Proofs.YtffgpjkkgndkiaaDoor
set_option maxRecDepth 100000
open Go.RowKit

theorem infoStr : (Tryd.prog.info? 9).map (fun i => (i.zero, i.size, i.bytes)) = some (some (.string ⟨#[]⟩), 1, 16) := by kernel_rfl
def encS (ts : List (List UInt8)) : List Value := ts.map fun t => .string (txt t)
theorem encS_append (a b : List (List UInt8)) : encS (a ++ b) = encS a ++ encS b := by simp [encS]
theorem encS_len (a : List (List UInt8)) : (encS a).length = a.length := by simp [encS]
def TextsOf (base : Nat) (w : World) (v : Value) (ts : List (List UInt8)) : Prop := w.ownsRow base 9 1 v ts.length (encS ts)
theorem TextsOf.nil (base : Nat) (w : World) : TextsOf base w (.slice none 0 0) [] := World.ownsRow_nil _ _ _ _
theorem TextsOf.below {base : Nat} {w w' : World} {v : Value} {ts : List (List UInt8)} (h : TextsOf base w v ts) (hb : Below w.heap.size w w') : TextsOf base w' v ts := own_below h hb
theorem TextsOf.form {base : Nat} {w : World} {v : Value} {ts : List (List UInt8)} (h : TextsOf base w v ts) : ∃ a c, v = .slice a ts.length c := own_form h
theorem TextsOf.sl {base : Nat} {w : World} {a : Option Addr} {c : Nat} {ts : List (List UInt8)} (h : TextsOf base w (.slice a ts.length c) ts) (hb : ts.length * 16 ≤ 140737488351232) : Sl w 1 16 a ts.length c (encS ts) := by
  obtain ⟨a', c', e, hs⟩ := sl_of_own h hb
  simp only [Value.slice.injEq, true_and] at e
  obtain ⟨rfl, rfl⟩ := e
  exact hs
set_option maxHeartbeats 1000000 in
theorem sameTexts_any (ts : List (List UInt8)) (a a' : Option Addr) (cap cap' : Nat) (w : World) (h1 : Sl w 1 16 a ts.length cap (encS ts)) (h2 : Sl w 1 16 a' ts.length cap' (encS ts)) :
    Calls Tryd.prog 13 #[.slice a ts.length cap, .slice a' ts.length cap'] w fun e w' => e = .returned (.bool true) ∧ Below w.heap.size w w' := by
  have hn := h1.wide
  obtain ⟨n, hN⟩ : ∃ n, n = ts.length := ⟨_, rfl⟩
  rw [← hN] at h1 h2 hn ⊢
  have HN := Lib.hid hN
  clear hN
  go_enter Tryd.func13, Tryd.ntmps13
  go_wp2_with fail
  go_loopw [5] (fun i wr => ∃ k : Nat, i = .int .i64 k ∧ k ≤ n ∧ Below w.heap.size w wr) (fun i _ => n - (intOf i).toNat)
  case atStart => exact ⟨0, rfl, Nat.zero_le _, Below.refl _ _⟩
  case round =>
    obtain ⟨k, rfl, hk, hB⟩ := hrel
    by_cases hlt : k < n
    · obtain ⟨S, hS⟩ : ∃ S, (encS ts)[k]? = some (.string S) := ⟨txt (ts[k]'(by have := HN.out; omega)), by have := HN.out; simp [encS, List.getElem?_eq_getElem (show k < ts.length by omega)]⟩
      obtain ⟨b, o, rfl, hrow⟩ := h1.row (by omega)
      obtain ⟨b', o', rfl, hrow'⟩ := h2.row (by omega)
      have hb := h1.lt (by omega) (by omega)
      have hb' := h2.lt (by omega) (by omega)
      have e0 := (hB.cell (p := ⟨b, o + k, none⟩) hb).trans (hrow _ _ hS)
      have f0 := (hB.cell (p := ⟨b', o' + k, none⟩) hb').trans (hrow' _ _ hS)
      clear hS hrow hrow'
      go_wp2_with fail
      go_quiet (fail)
      go_wp2_with fail
      exact ⟨⟨k + 1, by go_num, by omega, hB.trans (Joins.below_draws _ _ _)⟩, by simp [intOf]; omega⟩
    · obtain rfl : k = n := by omega
      go_wp2_with fail
      go_ret
      exact ⟨rfl, hB⟩
end Go.Proofs.YtffgpjkkgndkiaaDoor
