/-
  Which functions an interface's methods are, over the arena's free numbers; container/heap.up over the arena's free numbers.
-/
import Derived.Test.YtabhpbkkjijfjaaGreatDoorZHouseLogsHeapUp
import Derived.Test.YtabhpbkkjijfjaaGreatDoorZHouseLogs15
namespace Go.Proofs.YtabhpbkkjijfjaaGreatDoor
set_option maxRecDepth 100000
open Go.RowKit

theorem load_nums (b p : Nat) (v : Value) (w : World) (h : w.cell? ⟨b, p, none⟩ = some v) : (loadVar 82 ⟨b, p, none⟩).run Tryz.prog w = .ok v w := by
  go_simp
theorem meth_row (name : String) (f : FuncId) (pr : Bool) (hm : (Tryz.prog.info? 307).map (fun i => (i.methods.find? (·.name == name)).map (fun m => (m.func, m.path.size))) = some (some (some (f, pr), 0))) :
    ∃ i m, Tryz.prog.info? 307 = some i ∧ i.methods.find? (·.name == name) = some m ∧ m.func = some (f, pr) ∧ m.path = #[] := by
  cases hi : Tryz.prog.info? 307 with
  | none => rw [hi] at hm; cases hm
  | some i =>
    rw [hi] at hm
    simp only [Option.map_some, Option.some.injEq] at hm
    cases hf : i.methods.find? (·.name == name) with
    | none => rw [hf] at hm; cases hm
    | some m =>
      rw [hf] at hm
      simp only [Option.map_some, Option.some.injEq, Prod.mk.injEq] at hm
      exact ⟨i, m, rfl, hf, hm.1, Array.eq_empty_of_size_eq_zero hm.2⟩
theorem meth_val (name : String) (f : FuncId) (hrow : (Tryz.prog.info? 307).map (fun i => (i.methods.find? (·.name == name)).map (fun m => (m.func, m.path.size))) = some (some (some (f, false), 0))) (b p : Nat) (v : Value) (w : World) (h : w.cell? ⟨b, p, none⟩ = some v) :
    (method 428 307 (.pointer (some ⟨b, p, none⟩)) name).run Tryz.prog w = .ok (f, v) w := by
  obtain ⟨i, m, hi, hm, hf, hp⟩ := meth_row name f false hrow
  have hr : ∀ s, (receiverAt 307 (.val (.pointer (some ⟨b, p, none⟩))) false (some s)).run Tryz.prog w = .ok v w := fun s => (show _ = (loadVar 82 ⟨b, p, none⟩).run Tryz.prog w by kernel_rfl).trans (load_nums b p v w h)
  have hp1 : (program).run Tryz.prog w = .ok Tryz.prog w := rfl
  unfold method
  simp only [typeInfo, Sem.run_bind, Sem.run_pure, Result.andThen_ok, hp1, hi, hm, hf, hp, List.toList_toArray, follow, Array.isEmpty, if_true, hr, List.size_toArray, List.length_nil, decide_true]
theorem meth_ptr (name : String) (f : FuncId) (hrow : (Tryz.prog.info? 307).map (fun i => (i.methods.find? (·.name == name)).map (fun m => (m.func, m.path.size))) = some (some (some (f, true), 0))) (b p : Nat) (w : World) :
    (method 428 307 (.pointer (some ⟨b, p, none⟩)) name).run Tryz.prog w = .ok (f, .pointer (some ⟨b, p, none⟩)) w := by
  obtain ⟨i, m, hi, hm, hf, hp⟩ := meth_row name f true hrow
  have hr : ∀ s, (receiverAt 307 (.val (.pointer (some ⟨b, p, none⟩))) true (some s)).run Tryz.prog w = .ok (.pointer (some ⟨b, p, none⟩)) w := fun s => by kernel_rfl
  have hp1 : (program).run Tryz.prog w = .ok Tryz.prog w := rfl
  unfold method
  simp only [typeInfo, Sem.run_bind, Sem.run_pure, Result.andThen_ok, hp1, hi, hm, hf, hp, List.toList_toArray, follow, Array.isEmpty, if_true, hr, List.size_toArray, List.length_nil, decide_true]
theorem meth_len (b p : Nat) (v : Value) (w : World) (h : w.cell? ⟨b, p, none⟩ = some v) : (method 428 307 (.pointer (some ⟨b, p, none⟩)) "Len").run Tryz.prog w = .ok (230, v) w := meth_val "Len" _ (by kernel_rfl) b p v w h
theorem meth_less (b p : Nat) (v : Value) (w : World) (h : w.cell? ⟨b, p, none⟩ = some v) : (method 428 307 (.pointer (some ⟨b, p, none⟩)) "Less").run Tryz.prog w = .ok (231, v) w := meth_val "Less" _ (by kernel_rfl) b p v w h
theorem meth_swap (b p : Nat) (v : Value) (w : World) (h : w.cell? ⟨b, p, none⟩ = some v) : (method 428 307 (.pointer (some ⟨b, p, none⟩)) "Swap").run Tryz.prog w = .ok (232, v) w := meth_val "Swap" _ (by kernel_rfl) b p v w h
theorem meth_pop (b p : Nat) (w : World) : (method 428 307 (.pointer (some ⟨b, p, none⟩)) "Pop").run Tryz.prog w = .ok (237, .pointer (some ⟨b, p, none⟩)) w := meth_ptr "Pop" _ (by kernel_rfl) b p w
theorem meth_push (b p : Nat) (w : World) : (method 428 307 (.pointer (some ⟨b, p, none⟩)) "Push").run Tryz.prog w = .ok (238, .pointer (some ⟨b, p, none⟩)) w := meth_ptr "Push" _ (by kernel_rfl) b p w
end Go.Proofs.YtabhpbkkjijfjaaGreatDoor
namespace Go.Proofs.YtabhpbkkjijfjaaGreatDoor
set_option maxRecDepth 100000
open Go.RowKit

theorem Keeps.drewN {F : Nat → Prop} {a w : World} (h : Keeps F a w) (q : Nat) : Keeps F a (w.drewN q) := ⟨h.os, h.tape, h.output, h.size, h.block⟩
def numsI (b p : Nat) : Value := .iface 307 (.pointer (some ⟨b, p, none⟩))
set_option maxHeartbeats 2000000 in
theorem up_any (b p g o c j : Nat) (xs : List Nat) (w : World) (hc : w.cell? ⟨b, p, none⟩ = some (.slice (some ⟨g, o, none⟩) xs.length c)) (hr : Row w 3 1 (.slice (some ⟨g, o, none⟩) xs.length c) xs.length (xs.map idV)) (hne : g ≠ b) (hX : HeapX xs j) (hj : j < xs.length) (hlen : xs.length ≤ 1000000) :
    Calls Tryz.prog 209 #[numsI b p, .int .i64 j] w fun e w' => e = .returned (.tuple #[]) ∧ ∃ ys : List Nat, ys.Perm xs ∧ HeapN ys.length ys ∧ Row w' 3 1 (.slice (some ⟨g, o, none⟩) xs.length c) xs.length (ys.map idV) ∧ Keeps (fun k => k = g) w w' := by
  have hb := World.block_lt_of_cell? w _ hc
  obtain ⟨N, hN⟩ : ∃ N, N = xs.length := ⟨_, rfl⟩
  rw [← hN] at hc hr hj hlen ⊢
  have HN := Lib.hid hN
  have HX0 : Aside (HeapX xs j) := hX
  have HR0 : Aside (Row w 3 1 (.slice (some ⟨g, o, none⟩) N c) N (xs.map idV)) := hr
  clear hN hX hr
  unfold numsI
  go_enter Tryz.func209, Tryz.ntmps209
  go_wp2_with fail
  go_loopw [1, 4] (fun jv _ ws => ∃ (k : Nat) (ys : List Nat), jv = .int .i64 k ∧ k < N ∧ ys.length = N ∧ Aside (ys.Perm xs) ∧ Aside (HeapX ys k) ∧ Aside (Row ws 3 1 (.slice (some ⟨g, o, none⟩) N c) N (ys.map idV)) ∧ Keeps (fun k => k = g) w ws) (fun jv _ _ => (intOf jv).toNat)
  case atStart => exact ⟨j, xs, rfl, hj, HN.out.symm, List.Perm.refl _, HX0, HR0, Keeps.refl _ _⟩
  case round =>
    obtain ⟨k, ys, rfl, hk, hyl, HP, HX, HR, hK⟩ := hrel
    have c0 : wr.cell? ⟨b, p, none⟩ = some (.slice (some ⟨g, o, none⟩) N c) := (hK.cell hb (fun h => hne h.symm)).trans hc
    have hl : ys.length = N := hyl
    rcases Nat.eq_zero_or_pos k with rfl | hk0
    · have hfin : HeapN ys.length ys := HX.out.done (.inl rfl)
      have HF := Lib.hid hfin
      clear hfin
      go_wp2_with fail
      go_end0
      exact ⟨rfl, ys, HP.out, HF.out, HR.out, hK⟩
    · obtain ⟨i, hi⟩ : ∃ i, i = (k - 1) / 2 := ⟨_, rfl⟩
      have hI : ((k : Int) - 1).tdiv 2 = (i : Int) := by
        rw [show (k : Int) - 1 = ((k - 1 : Nat) : Int) by omega, hi]; rfl
      have hik : ((i : Int) == (k : Int)) = false := by simp; omega
      have hik2 : (i == k) = false := by simp; omega
      obtain ⟨x, hx⟩ : ∃ x, ys[i]? = some x := ⟨_, List.getElem?_eq_getElem (by omega)⟩
      obtain ⟨y, hy⟩ : ∃ y, ys[k]? = some y := ⟨_, List.getElem?_eq_getElem (by omega)⟩
      have HL := Lib.hid (less_any ys k i y x (some ⟨g, o, none⟩) c wr (by rw [hyl]; exact HR.out) hy hx)
      rw [hyl] at HL
      have hmL := meth_less b p _ wr c0
      have HFin : ¬ y < x → HeapN ys.length ys := fun h => HX.out.done (.inr ⟨x, y, by rw [← hi]; exact hx, hy, by omega⟩)
      have HS := Lib.hid (fun q => swap_any ys i k x y g o c (wr.drewN q) (by rw [hyl]; exact HR.out) hx hy)
      rw [hyl] at HS
      have HXS := Lib.hid (fun h : y < x => HX.out.swap hk0 (by rw [← hi]; exact hx) hy h)
      rw [← hi] at HXS
      have HPS := Lib.hid ((swap_perm hx hy).trans HP.out)
      have HFI := Lib.hid HFin
      have hik3 : i < k := by omega
      clear hi hx hy HFin
      go_wp2_with fail
      refine HL.out.mono ?_
      rintro e w1 ⟨rfl, q, rfl⟩
      by_cases hlt : y < x
      · have tl : decide (y < x) = true := decide_eq_true hlt
        have hmS := meth_swap b p _ (wr.drewN q) c0
        go_wp2_with fail
        refine (HS.out q).mono ?_
        rintro e w2 ⟨rfl, hr2, hk2⟩
        have HR2 : Aside (Row w2 3 1 (.slice (some ⟨g, o, none⟩) N c) N (((ys.set i y).set k x).map idV)) := hr2
        have HK2 := Lib.hid ((hK.drewN q).trans hk2 (fun _ _ h => h))
        clear hr2 hk2
        go_wp2_with fail
        refine ⟨⟨i, (ys.set i y).set k x, rfl, by omega, by rw [List.length_set, List.length_set, hyl], HPS.out, HXS.out hlt, HR2.out, HK2.out⟩, by simp [intOf]; omega⟩
      · have tl : decide (y < x) = false := decide_eq_false hlt
        have HF := Lib.hid (HFI.out hlt)
        clear hlt
        go_wp2_with fail
        go_end0
        exact ⟨rfl, ys, HP.out, HF.out, HR.out, hK.drewN q⟩
end Go.Proofs.YtabhpbkkjijfjaaGreatDoor
