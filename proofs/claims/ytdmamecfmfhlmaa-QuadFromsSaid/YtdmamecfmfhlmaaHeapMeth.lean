/-
  Which functions an interface's methods are, over the arena's free numbers.
-/
import Derived.Test.YtdmamecfmfhlmaaHeapUp
import Derived.Test.YtdmamecfmfhlmaaHeapMath
namespace Go.Proofs.Ytdmamecfmfhlmaa
set_option maxRecDepth 100000
open Go.RowKit

theorem load_nums (b p : Nat) (v : Value) (w : World) (h : w.cell? ⟨b, p, none⟩ = some v) : (loadVar 89 ⟨b, p, none⟩).run Try.prog w = .ok v w := by
  go_simp
theorem meth_row (name : String) (f : FuncId) (pr : Bool) (hm : (Try.prog.info? 140).map (fun i => (i.methods.find? (·.name == name)).map (fun m => (m.func, m.path.size))) = some (some (some (f, pr), 0))) :
    ∃ i m, Try.prog.info? 140 = some i ∧ i.methods.find? (·.name == name) = some m ∧ m.func = some (f, pr) ∧ m.path = #[] := by
  cases hi : Try.prog.info? 140 with
  | none => rw [hi] at hm; cases hm
  | some i =>
    rw [hi] at hm
    simp only [Option.map_some, Option.some.injEq] at hm
    cases hf : i.methods.find? (·.name == name) with
    | none => rw [hf] at hm; cases hm
    | some m =>
      rw [hf] at hm
      simp only [Option.map_some, Option.some.injEq, Prod.mk.injEq] at hm
      exact ⟨i, m, rfl, hf, hm.1, Array.eq_empty_of_size_eq_zero hm.2⟩
theorem meth_val (name : String) (f : FuncId) (hrow : (Try.prog.info? 140).map (fun i => (i.methods.find? (·.name == name)).map (fun m => (m.func, m.path.size))) = some (some (some (f, false), 0))) (b p : Nat) (v : Value) (w : World) (h : w.cell? ⟨b, p, none⟩ = some v) :
    (method 289 140 (.pointer (some ⟨b, p, none⟩)) name).run Try.prog w = .ok (f, v) w := by
  obtain ⟨i, m, hi, hm, hf, hp⟩ := meth_row name f false hrow
  have hr : ∀ s, (receiverAt 140 (.val (.pointer (some ⟨b, p, none⟩))) false (some s)).run Try.prog w = .ok v w := fun s => (show _ = (loadVar 89 ⟨b, p, none⟩).run Try.prog w by kernel_rfl).trans (load_nums b p v w h)
  have hp1 : (program).run Try.prog w = .ok Try.prog w := rfl
  unfold method
  simp only [typeInfo, Sem.run_bind, Sem.run_pure, Result.andThen_ok, hp1, hi, hm, hf, hp, List.toList_toArray, follow, Array.isEmpty, if_true, hr, List.size_toArray, List.length_nil, decide_true]
theorem meth_ptr (name : String) (f : FuncId) (hrow : (Try.prog.info? 140).map (fun i => (i.methods.find? (·.name == name)).map (fun m => (m.func, m.path.size))) = some (some (some (f, true), 0))) (b p : Nat) (w : World) :
    (method 289 140 (.pointer (some ⟨b, p, none⟩)) name).run Try.prog w = .ok (f, .pointer (some ⟨b, p, none⟩)) w := by
  obtain ⟨i, m, hi, hm, hf, hp⟩ := meth_row name f true hrow
  have hr : ∀ s, (receiverAt 140 (.val (.pointer (some ⟨b, p, none⟩))) true (some s)).run Try.prog w = .ok (.pointer (some ⟨b, p, none⟩)) w := fun s => by kernel_rfl
  have hp1 : (program).run Try.prog w = .ok Try.prog w := rfl
  unfold method
  simp only [typeInfo, Sem.run_bind, Sem.run_pure, Result.andThen_ok, hp1, hi, hm, hf, hp, List.toList_toArray, follow, Array.isEmpty, if_true, hr, List.size_toArray, List.length_nil, decide_true]
theorem meth_len (b p : Nat) (v : Value) (w : World) (h : w.cell? ⟨b, p, none⟩ = some v) : (method 289 140 (.pointer (some ⟨b, p, none⟩)) "Len").run Try.prog w = .ok (138, v) w := meth_val "Len" _ (by kernel_rfl) b p v w h
theorem meth_less (b p : Nat) (v : Value) (w : World) (h : w.cell? ⟨b, p, none⟩ = some v) : (method 289 140 (.pointer (some ⟨b, p, none⟩)) "Less").run Try.prog w = .ok (139, v) w := meth_val "Less" _ (by kernel_rfl) b p v w h
theorem meth_swap (b p : Nat) (v : Value) (w : World) (h : w.cell? ⟨b, p, none⟩ = some v) : (method 289 140 (.pointer (some ⟨b, p, none⟩)) "Swap").run Try.prog w = .ok (140, v) w := meth_val "Swap" _ (by kernel_rfl) b p v w h
theorem meth_pop (b p : Nat) (w : World) : (method 289 140 (.pointer (some ⟨b, p, none⟩)) "Pop").run Try.prog w = .ok (141, .pointer (some ⟨b, p, none⟩)) w := meth_ptr "Pop" _ (by kernel_rfl) b p w
theorem meth_push (b p : Nat) (w : World) : (method 289 140 (.pointer (some ⟨b, p, none⟩)) "Push").run Try.prog w = .ok (142, .pointer (some ⟨b, p, none⟩)) w := meth_ptr "Push" _ (by kernel_rfl) b p w
end Go.Proofs.Ytdmamecfmfhlmaa
