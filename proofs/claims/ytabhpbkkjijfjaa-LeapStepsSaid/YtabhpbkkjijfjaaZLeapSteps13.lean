/-
  Which functions an interface's methods are, over the arena's free numbers; container/heap.up over the arena's free numbers; container/heap.Push over the arena's free numbers.
-/
import Derived.Test.YtabhpbkkjijfjaaZLeapSteps12
import Derived.Test.YtabhpbkkjijfjaaZLeapSteps10
namespace Go.Proofs.Ytabhpbkkjijfjaa
set_option maxRecDepth 100000
open Go.RowKit

theorem load_nums (b p : Nat) (v : Value) (w : World) (h : w.cell? ⟨b, p, none⟩ = some v) : (loadVar 60 ⟨b, p, none⟩).run Try.prog w = .ok v w := by
  go_simp
theorem meth_row (name : String) (f : FuncId) (pr : Bool) (hm : (Try.prog.info? 132).map (fun i => (i.methods.find? (·.name == name)).map (fun m => (m.func, m.path.size))) = some (some (some (f, pr), 0))) :
    ∃ i m, Try.prog.info? 132 = some i ∧ i.methods.find? (·.name == name) = some m ∧ m.func = some (f, pr) ∧ m.path = #[] := by
  cases hi : Try.prog.info? 132 with
  | none => rw [hi] at hm; cases hm
  | some i =>
    rw [hi] at hm
    simp only [Option.map_some, Option.some.injEq] at hm
    cases hf : i.methods.find? (·.name == name) with
    | none => rw [hf] at hm; cases hm
    | some m =>
      rw [hf] at hm
      simp only [Option.map_some, Option.some.injEq, Prod.mk.injEq] at hm
      exact ⟨i, m, rfl, hf, hm.1, Array.eq_empty_of_size_eq_zero hm.2⟩
theorem meth_val (name : String) (f : FuncId) (hrow : (Try.prog.info? 132).map (fun i => (i.methods.find? (·.name == name)).map (fun m => (m.func, m.path.size))) = some (some (some (f, false), 0))) (b p : Nat) (v : Value) (w : World) (h : w.cell? ⟨b, p, none⟩ = some v) :
    (method 260 132 (.pointer (some ⟨b, p, none⟩)) name).run Try.prog w = .ok (f, v) w := by
  obtain ⟨i, m, hi, hm, hf, hp⟩ := meth_row name f false hrow
  have hr : ∀ s, (receiverAt 132 (.val (.pointer (some ⟨b, p, none⟩))) false (some s)).run Try.prog w = .ok v w := fun s => (show _ = (loadVar 60 ⟨b, p, none⟩).run Try.prog w by kernel_rfl).trans (load_nums b p v w h)
  have hp1 : (program).run Try.prog w = .ok Try.prog w := rfl
  unfold method
  simp only [typeInfo, Sem.run_bind, Sem.run_pure, Result.andThen_ok, hp1, hi, hm, hf, hp, List.toList_toArray, follow, Array.isEmpty, if_true, hr, List.size_toArray, List.length_nil, decide_true]
theorem meth_ptr (name : String) (f : FuncId) (hrow : (Try.prog.info? 132).map (fun i => (i.methods.find? (·.name == name)).map (fun m => (m.func, m.path.size))) = some (some (some (f, true), 0))) (b p : Nat) (w : World) :
    (method 260 132 (.pointer (some ⟨b, p, none⟩)) name).run Try.prog w = .ok (f, .pointer (some ⟨b, p, none⟩)) w := by
  obtain ⟨i, m, hi, hm, hf, hp⟩ := meth_row name f true hrow
  have hr : ∀ s, (receiverAt 132 (.val (.pointer (some ⟨b, p, none⟩))) true (some s)).run Try.prog w = .ok (.pointer (some ⟨b, p, none⟩)) w := fun s => by kernel_rfl
  have hp1 : (program).run Try.prog w = .ok Try.prog w := rfl
  unfold method
  simp only [typeInfo, Sem.run_bind, Sem.run_pure, Result.andThen_ok, hp1, hi, hm, hf, hp, List.toList_toArray, follow, Array.isEmpty, if_true, hr, List.size_toArray, List.length_nil, decide_true]
theorem meth_len (b p : Nat) (v : Value) (w : World) (h : w.cell? ⟨b, p, none⟩ = some v) : (method 260 132 (.pointer (some ⟨b, p, none⟩)) "Len").run Try.prog w = .ok (105, v) w := meth_val "Len" _ (by kernel_rfl) b p v w h
theorem meth_less (b p : Nat) (v : Value) (w : World) (h : w.cell? ⟨b, p, none⟩ = some v) : (method 260 132 (.pointer (some ⟨b, p, none⟩)) "Less").run Try.prog w = .ok (106, v) w := meth_val "Less" _ (by kernel_rfl) b p v w h
theorem meth_swap (b p : Nat) (v : Value) (w : World) (h : w.cell? ⟨b, p, none⟩ = some v) : (method 260 132 (.pointer (some ⟨b, p, none⟩)) "Swap").run Try.prog w = .ok (107, v) w := meth_val "Swap" _ (by kernel_rfl) b p v w h
theorem meth_pop (b p : Nat) (w : World) : (method 260 132 (.pointer (some ⟨b, p, none⟩)) "Pop").run Try.prog w = .ok (108, .pointer (some ⟨b, p, none⟩)) w := meth_ptr "Pop" _ (by kernel_rfl) b p w
theorem meth_push (b p : Nat) (w : World) : (method 260 132 (.pointer (some ⟨b, p, none⟩)) "Push").run Try.prog w = .ok (109, .pointer (some ⟨b, p, none⟩)) w := meth_ptr "Push" _ (by kernel_rfl) b p w
end Go.Proofs.Ytabhpbkkjijfjaa
namespace Go.Proofs.Ytabhpbkkjijfjaa
set_option maxRecDepth 100000
open Go.RowKit

theorem Keeps.drewN {F : Nat → Prop} {a w : World} (h : Keeps F a w) (q : Nat) : Keeps F a (w.drewN q) := ⟨h.os, h.tape, h.output, h.size, h.block⟩
def numsI (b p : Nat) : Value := .iface 132 (.pointer (some ⟨b, p, none⟩))
set_option maxHeartbeats 2000000 in
theorem up_any (b p g o c j : Nat) (xs : List Nat) (w : World) (hc : w.cell? ⟨b, p, none⟩ = some (.slice (some ⟨g, o, none⟩) xs.length c)) (hr : Row w 3 1 (.slice (some ⟨g, o, none⟩) xs.length c) xs.length (xs.map idV)) (hne : g ≠ b) (hX : HeapX xs j) (hj : j < xs.length) (hlen : xs.length ≤ 1000000) :
    Calls Try.prog 86 #[numsI b p, .int .i64 j] w fun e w' => e = .returned (.tuple #[]) ∧ ∃ ys : List Nat, ys.Perm xs ∧ HeapN ys.length ys ∧ Row w' 3 1 (.slice (some ⟨g, o, none⟩) xs.length c) xs.length (ys.map idV) ∧ Keeps (fun k => k = g) w w' := by
  have hb := World.block_lt_of_cell? w _ hc
  obtain ⟨N, hN⟩ : ∃ N, N = xs.length := ⟨_, rfl⟩
  rw [← hN] at hc hr hj hlen ⊢
  have HN := Lib.hid hN
  have HX0 : Aside (HeapX xs j) := hX
  have HR0 : Aside (Row w 3 1 (.slice (some ⟨g, o, none⟩) N c) N (xs.map idV)) := hr
  clear hN hX hr
  unfold numsI
  go_enter Try.func86, Try.ntmps86
  go_wp2_with fail
  go_loopw [1, 4] (fun jv _ ws => ∃ (k : Nat) (ys : List Nat), jv = .int .i64 k ∧ k < N ∧ ys.length = N ∧ Aside (ys.Perm xs) ∧ Aside (HeapX ys k) ∧ Aside (Row ws 3 1 (.slice (some ⟨g, o, none⟩) N c) N (ys.map idV)) ∧ Keeps (fun k => k = g) w ws) (fun jv _ _ => (intOf jv).toNat)
  case atStart => exact ⟨j, xs, rfl, hj, HN.out.symm, List.Perm.refl _, HX0, HR0, Keeps.refl _ _⟩
  case round =>
    obtain ⟨k, ys, rfl, hk, hyl, HP, HX, HR, hK⟩ := hrel
    have c0 : wr.cell? ⟨b, p, none⟩ = some (.slice (some ⟨g, o, none⟩) N c) := (hK.cell hb (fun h => hne h.symm)).trans hc
    have hl : ys.length = N := hyl
    rcases Nat.eq_zero_or_pos k with rfl | hk0
    · have hfin : HeapN ys.length ys := HX.out.done (.inl rfl)
      have HF := Lib.hid hfin
      clear hfin
      go_wp2_with fail
      go_end0
      exact ⟨rfl, ys, HP.out, HF.out, HR.out, hK⟩
    · obtain ⟨i, hi⟩ : ∃ i, i = (k - 1) / 2 := ⟨_, rfl⟩
      have hI : ((k : Int) - 1).tdiv 2 = (i : Int) := by
        rw [show (k : Int) - 1 = ((k - 1 : Nat) : Int) by omega, hi]; rfl
      have hik : ((i : Int) == (k : Int)) = false := by simp; omega
      have hik2 : (i == k) = false := by simp; omega
      obtain ⟨x, hx⟩ : ∃ x, ys[i]? = some x := ⟨_, List.getElem?_eq_getElem (by omega)⟩
      obtain ⟨y, hy⟩ : ∃ y, ys[k]? = some y := ⟨_, List.getElem?_eq_getElem (by omega)⟩
      have HL := Lib.hid (less_any ys k i y x (some ⟨g, o, none⟩) c wr (by rw [hyl]; exact HR.out) hy hx)
      rw [hyl] at HL
      have hmL := meth_less b p _ wr c0
      have HFin : ¬ y < x → HeapN ys.length ys := fun h => HX.out.done (.inr ⟨x, y, by rw [← hi]; exact hx, hy, by omega⟩)
      have HS := Lib.hid (fun q => swap_any ys i k x y g o c (wr.drewN q) (by rw [hyl]; exact HR.out) hx hy)
      rw [hyl] at HS
      have HXS := Lib.hid (fun h : y < x => HX.out.swap hk0 (by rw [← hi]; exact hx) hy h)
      rw [← hi] at HXS
      have HPS := Lib.hid ((swap_perm hx hy).trans HP.out)
      have HFI := Lib.hid HFin
      have hik3 : i < k := by omega
      clear hi hx hy HFin
      go_wp2_with fail
      refine HL.out.mono ?_
      rintro e w1 ⟨rfl, q, rfl⟩
      by_cases hlt : y < x
      · have tl : decide (y < x) = true := decide_eq_true hlt
        have hmS := meth_swap b p _ (wr.drewN q) c0
        go_wp2_with fail
        refine (HS.out q).mono ?_
        rintro e w2 ⟨rfl, hr2, hk2⟩
        have HR2 : Aside (Row w2 3 1 (.slice (some ⟨g, o, none⟩) N c) N (((ys.set i y).set k x).map idV)) := hr2
        have HK2 := Lib.hid ((hK.drewN q).trans hk2 (fun _ _ h => h))
        clear hr2 hk2
        go_wp2_with fail
        refine ⟨⟨i, (ys.set i y).set k x, rfl, by omega, by rw [List.length_set, List.length_set, hyl], HPS.out, HXS.out hlt, HR2.out, HK2.out⟩, by simp [intOf]; omega⟩
      · have tl : decide (y < x) = false := decide_eq_false hlt
        have HF := Lib.hid (HFI.out hlt)
        clear hlt
        go_wp2_with fail
        go_end0
        exact ⟨rfl, ys, HP.out, HF.out, HR.out, hK.drewN q⟩
end Go.Proofs.Ytabhpbkkjijfjaa
namespace Go.Proofs.Ytabhpbkkjijfjaa
set_option maxRecDepth 100000
open Go.RowKit

theorem infoNum : (Try.prog.info? 3).map (fun i => (i.zero, i.size, i.bytes)) = some (some (.int .i64 0), 1, 8) := by kernel_rfl
/-- Numbers in cell p of block b. -/
structure NumsAt (b p : Nat) (arr : Array Value) (ty : TypeId) (l : List Nat) (v : Value) (w : World) : Prop where
  own : w.heap[b]? = some (.cells arr ty (0, 0))
  at_ : arr[p]? = some v
  row : Row w 3 1 v l.length (l.map idV)
  ne : v.ownBlock ≠ some b
theorem NumsAt.cell {b p : Nat} {arr : Array Value} {ty : TypeId} {l : List Nat} {v : Value} {w : World} (h : NumsAt b p arr ty l v w) : w.cell? ⟨b, p, none⟩ = some v := by rw [Joins.cell_of_block h.own]; exact h.at_
set_option maxRecDepth 100000 in
set_option maxHeartbeats 1000000 in
theorem npush_any (b p : Nat) (arr : Array Value) (ty : TypeId) (l : List Nat) (v : Value) (x : Nat) (w : World) (h : NumsAt b p arr ty l v w) (hlen : l.length < 1000000) :
    Calls Try.prog 109 #[.pointer (some ⟨b, p, none⟩), .iface 3 (.int .i64 x)] w fun e w' => e = .returned (.tuple #[]) ∧ ∃ g o c, NumsAt b p (arr.setIfInBounds p (.slice (some ⟨g, o, none⟩) (l.length + 1) c)) ty (l ++ [x]) (.slice (some ⟨g, o, none⟩) (l.length + 1) c) w' ∧ (v.ownBlock = some g ∨ w.heap.size ≤ g) ∧ Keeps (fun k => k = b ∨ v.ownBlock = some k) w w' := by
  obtain ⟨i0, hi, hz0, hz1, hz2⟩ := info_parts infoNum
  have c0 := h.cell
  obtain ⟨a, c, rfl, hcl, _, _⟩ := h.row.form
  have hbl := lt_of_block h.own
  obtain ⟨q, hq⟩ : ∃ q, q = l.length := ⟨_, rfl⟩
  have hr := h.row
  rw [← hq] at hr c0 hlen
  have HR0 := Lib.hid h.row
  have hr0 : Row (w.drew.alloc (.cells #[.int .i64 x] 3)) 3 1 (.slice a q c) q (l.map idV) := hr.keep fun g hg => Below.heap_alloc w.drew _ g (hr.lt g hg)
  have hbne : some b ≠ (Value.slice a q c).ownBlock := fun e => h.ne (by rw [← hq]; exact e.symm)
  have H1 := Lib.hid hr0
  have H3 := Lib.hid hbne
  have HH := Lib.hid h
  have HQ := Lib.hid hq
  have hwl : ∀ g, (Value.slice a q c).ownBlock = some g → g < w.heap.size := fun g hg => hr.lt g hg
  have HWL := Lib.hid hwl
  rw [← hq]
  clear hr0 hbne h hr hq hwl hcl
  have hta : (Instr.typeAssert (.iface 3 (.int .i64 x)) 20 3 false).run Try.prog w.drew = .ok (.int .i64 x) w.drew := by kernel_rfl
  go_enter Try.func109, Try.ntmps109
  go_wp2_with fail
  go_region_law ((refine step_append_row _ rfl (.tmp 7) (.tmp 10) 60 rfl 3 i0 _ 1 8 Try.underlying60 hi hz0 hz1 hz2 rfl (by omega) (.slice a q c) q (l.map idV) rfl H1.out ⟨w.heap.size, 0, none⟩ 1 1 [.int .i64 x] rfl rfl (news_alloc w.drew _ _ rfl) (by simp [Value.oneCell']) (by omega) (by unfold maxLen; omega) (by omega) _ rfl ?_; intro g off cap w1 hrow hg hat; have d1 : w1.cell? ⟨b, p, none⟩ = some (.slice a q c) := (hg.cell_far (a := ⟨b, p, none⟩) (by simp; omega) H3.out).trans ((World.cell?_of_block (Below.heap_alloc w.drew _ b hbl)).trans c0); have d2 : w1.frozen? ⟨b, p, none⟩ = false := (hg.frozen_far (a := ⟨b, p, none⟩) (by simp; omega) H3.out).trans ((World.frozen?_of_block (Below.heap_alloc w.drew _ b hbl)).trans (Joins.unfrozen_of_block HH.out.own p))))
  all_goals
    go_wp2_with fail
    go_end0
    have hb1 : w1.heap[b]? = some (.cells arr ty (0, 0)) := by
      rw [hg.block b (by simp; omega) H3.out]; exact (Below.heap_alloc w _ b hbl).trans HH.out.own
    have hge : ∀ o : Obj, g = (w.alloc o).drew.heap.size → w.heap.size ≤ g := fun o e => by
      rw [e]; show w.heap.size ≤ (w.alloc o).heap.size; simp
    have hgb : g ≠ b := fun e => by
      subst e
      rcases hat with hat | hat
      · exact H3.out hat.symm
      · have := hge _ hat
        omega
    refine ⟨rfl, g, off, cap, ⟨Joins.block_setCell hb1 _, ?_, ?_, fun e => hgb (Option.some.inj e)⟩, ?_, ?_⟩
    · have hp : p < arr.size := by
        have := HH.out.at_
        exact (Array.getElem?_eq_some_iff.1 this).1
      rw [Array.getElem?_setIfInBounds, if_pos rfl, if_pos hp]
    · rw [List.length_append, List.map_append, ← HQ.out]
      exact hrow.keep fun g' hg' => by
        simp only [Value.ownBlock, Option.some.injEq] at hg'
        subst hg'
        exact Below.heap_setCell _ _ _ _ hgb
    · rcases hat with hat | hat
      · exact .inl hat
      · exact .inr (hge _ hat)
    · refine Keeps.setCell (p := ⟨b, p, none⟩) ?_ (fun _ => .inl rfl) _
      refine Keeps.grown ((Keeps.refl _ w).alloc (.cells #[.int .i64 x] 3)).drew hg fun g' hg' _ => .inr hg'
theorem len_any (a : Option Addr) (n c : Nat) (w : World) : Calls Try.prog 105 #[.slice a n c] w fun e w' => e = .returned (.int .i64 n) ∧ w' = w := by
  go_enter Try.func105, Try.ntmps105
  go_wp2_with fail
  go_ret
  exact ⟨rfl, rfl⟩
theorem NumsAt.sorted {b p g : Nat} {arr : Array Value} {ty : TypeId} {l ys : List Nat} {v : Value} {w w' : World} (h : NumsAt b p arr ty l v w) (hk : Keeps (fun k => k = g) w w') (hg : g ≠ b) (hl : ys.length = l.length) (hr : Row w' 3 1 v l.length (ys.map idV)) : NumsAt b p arr ty ys v w' :=
  ⟨(hk.block b (lt_of_block h.own) (fun e => hg e.symm)).trans h.own, h.at_, by rw [hl]; exact hr, h.ne⟩
set_option maxHeartbeats 1000000 in
theorem hpush_any (b p : Nat) (arr : Array Value) (ty : TypeId) (l : List Nat) (v : Value) (x : Nat) (w : World) (h : NumsAt b p arr ty l v w) (hh : HeapN l.length l) (hlen : l.length < 999999) :
    Calls Try.prog 83 #[numsI b p, .iface 3 (.int .i64 x)] w fun e w' => e = .returned (.tuple #[]) ∧ ∃ g o c, ∃ ys : List Nat, ys.Perm (l ++ [x]) ∧ HeapN ys.length ys ∧ NumsAt b p (arr.setIfInBounds p (.slice (some ⟨g, o, none⟩) (l.length + 1) c)) ty ys (.slice (some ⟨g, o, none⟩) (l.length + 1) c) w' ∧ (v.ownBlock = some g ∨ w.heap.size ≤ g) ∧ Keeps (fun k => k = b ∨ v.ownBlock = some k) w w' := by
  have hmP := meth_push b p w
  have HP := Lib.hid (npush_any b p arr ty l v x w h (by omega))
  have HH := Lib.hid (HeapX.push hh x)
  clear hh h
  unfold numsI
  go_enter Try.func83, Try.ntmps83
  go_wp2_with fail
  refine HP.out.mono ?_
  rintro e w1 ⟨rfl, g, o, c, hn, hg, hk⟩
  have hgb : g ≠ b := fun e => hn.ne (by rw [e]; rfl)
  have hmL := meth_len b p _ w1 hn.cell
  have hl1 : (l ++ [x]).length = l.length + 1 := by rw [List.length_append]; rfl
  have hrow := hn.row
  rw [hl1] at hrow
  have hup := up_any b p g o c l.length (l ++ [x]) w1 (by rw [hl1]; exact hn.cell) (by rw [hl1]; exact hrow) hgb HH.out (by omega) (by omega)
  rw [hl1] at hup
  have HU := Lib.hid hup
  unfold numsI at HU
  have HN := Lib.hid hn
  have HK := Lib.hid hk
  have HG := Lib.hid hg
  have HL1 := Lib.hid hl1
  clear hn hk hg hrow hup hl1 hmP
  go_wp2_with fail
  refine (len_any _ _ _ _).mono ?_
  rintro e w2 ⟨rfl, rfl⟩
  go_wp2_with fail
  refine HU.out.mono ?_
  rintro e w3 ⟨rfl, ys, hp1, hh1, hr3, hk3⟩
  go_wp2_with fail
  go_end0
  refine ⟨rfl, g, o, c, ys, hp1, hh1, HN.out.sorted hk3 hgb hp1.length_eq (by rw [HL1.out]; exact hr3), HG.out, HK.out.trans hk3 fun i hi e => ?_⟩
  subst e
  rcases HG.out with h | h
  · exact .inr h
  · omega
end Go.Proofs.Ytabhpbkkjijfjaa
