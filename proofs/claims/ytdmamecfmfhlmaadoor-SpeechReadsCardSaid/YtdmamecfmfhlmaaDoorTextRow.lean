/-
  Rows of texts of one's own; two of them compared.
-/
import Derived.Test.YtdmamecfmfhlmaaDoorTexts
import Derived.Test.YtdmamecfmfhlmaaDoorFoot
namespace Go.Proofs.YtdmamecfmfhlmaaDoor
set_option maxRecDepth 100000
open Go.RowKit

theorem infoStr : (Tryd.prog.info? 9).map (fun i => (i.zero, i.size, i.bytes)) = some (some (.string ⟨#[]⟩), 1, 16) := by kernel_rfl
def encS (ts : List (List UInt8)) : List Value := ts.map fun t => .string (txt t)
theorem encS_append (a b : List (List UInt8)) : encS (a ++ b) = encS a ++ encS b := by simp [encS]
theorem encS_len (a : List (List UInt8)) : (encS a).length = a.length := by simp [encS]
def TextsOf (base : Nat) (w : World) (v : Value) (ts : List (List UInt8)) : Prop := w.ownsRow base 9 1 v ts.length (encS ts)
theorem TextsOf.nil (base : Nat) (w : World) : TextsOf base w (.slice none 0 0) [] := World.ownsRow_nil _ _ _ _
theorem TextsOf.below {base : Nat} {w w' : World} {v : Value} {ts : List (List UInt8)} (h : TextsOf base w v ts) (hb : Below w.heap.size w w') : TextsOf base w' v ts := own_below h hb
theorem TextsOf.form {base : Nat} {w : World} {v : Value} {ts : List (List UInt8)} (h : TextsOf base w v ts) : ∃ a c, v = .slice a ts.length c := own_form h
theorem TextsOf.sl {base : Nat} {w : World} {a : Option Addr} {c : Nat} {ts : List (List UInt8)} (h : TextsOf base w (.slice a ts.length c) ts) (hb : ts.length * 16 ≤ 140737488351232) : Sl w 1 16 a ts.length c (encS ts) := by
  obtain ⟨a', c', e, hs⟩ := sl_of_own h hb
  simp only [Value.slice.injEq, true_and] at e
  obtain ⟨rfl, rfl⟩ := e
  exact hs
end Go.Proofs.YtdmamecfmfhlmaaDoor
