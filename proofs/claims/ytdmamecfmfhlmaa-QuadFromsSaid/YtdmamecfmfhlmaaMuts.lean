/-
  What a method comes to that changes its receiver's memory.
-/
import Derived.Test.YtdmamecfmfhlmaaFoot
namespace Go.Proofs.Ytdmamecfmfhlmaa
set_option maxRecDepth 100000
open Go.RowKit

/-- What a method that changes its receiver's memory comes to: it answers v, what it leaves is At, in the same blocks or new ones; nothing else has turned. -/
def Mut (w : World) (F : Nat → Prop) (At : World → (Nat → Prop) → Prop) (v : Value) (e : Ending) (w' : World) : Prop :=
  e = .returned v ∧ ∃ F', At w' F' ∧ (∀ i, F' i → F i ∨ w.heap.size ≤ i) ∧ Keeps F w w'
theorem Mut.same {w : World} {F : Nat → Prop} {At : World → (Nat → Prop) → Prop} {v : Value} (h : At w F) : Mut w F At v (.returned v) w := ⟨rfl, F, h, fun _ hi => .inl hi, Keeps.refl _ _⟩
end Go.Proofs.Ytdmamecfmfhlmaa
