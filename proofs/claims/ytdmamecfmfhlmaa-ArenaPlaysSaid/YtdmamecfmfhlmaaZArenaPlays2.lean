/-
  The copy of a list of cells; Small laws of memory: make, copy inside a drawn region.
-/
import Derived.Laws.AppendOwnNone
import Derived.Laws.MakeOwn
import Derived.Laws.OwnMore
import Derived.Laws.Entries
import Derived.Deep.RegionLaw
import Derived.Test.YtdmamecfmfhlmaaKinds
namespace Go.Proofs.Ytdmamecfmfhlmaa
set_option maxRecDepth 100000
open Go.RowKit

theorem infoCell : (Try.prog.info? 39).map (fun i => (i.zero, i.size, i.bytes)) = some (some (.agg #[.int .i64 0, .int .i64 0]), 2, 16) := by kernel_rfl

theorem sl_own_up {w w' : World} {base : Nat} {e : TypeId} {k bytes n : Nat} {a : Option Addr} {cap : Nat} {fl : List Value} (h : w.ownsRow base e k (.slice a n cap) n fl) (hk : 0 < k) (hb : n * bytes ≤ 140737488351232) (hg : Below w.heap.size w w') : Sl w' k bytes a n cap fl := by
  obtain ⟨a', c', e1, hs⟩ := sl_of_own h hb
  simp only [Value.slice.injEq, true_and] at e1
  obtain ⟨rfl, rfl⟩ := e1
  exact hs.below hk hg

theorem encCell_one (zs : List (Int × Int)) : ∀ u ∈ zs.flatMap encCell, u.oneCell' = true := by
  intro u hu
  obtain ⟨k, _, h⟩ := List.mem_flatMap.1 hu
  simp only [encCell, List.mem_cons, List.not_mem_nil, or_false] at h
  rcases h with rfl | rfl <;> rfl

/-- A list of cells that the call owns. -/
def Cells (w : World) (zs : List (Int × Int)) (e : Ending) (w' : World) : Prop :=
  ∃ v', e = .returned v' ∧ Below w.heap.size w w' ∧ w'.ownsRow w.heap.size 39 2 v' zs.length (zs.flatMap encCell)

set_option maxRecDepth 100000 in
set_option maxHeartbeats 1000000 in
theorem cells_any (zs : List (Int × Int)) (a : Option Addr) (cap : Nat) (w : World) (hs : Sl w 2 16 a zs.length cap (zs.flatMap encCell)) :
    Calls Try.prog 33 #[.slice a zs.length cap] w (Cells w zs) := by
  obtain ⟨i0, hi, hz0, hz1, hz2⟩ := info_parts infoCell
  have hn := hs.wide
  have hl := hs.len
  match ha : a with
  | none =>
    have hc : cap = 0 := hs.nil rfl
    have hk0 : zs = [] := List.eq_nil_of_length_eq_zero (by have := hs.room; omega)
    subst hc
    subst hk0
    clear hl hn
    go_enter Try.func33, Try.ntmps33
    go_wp2_with ((at_builtin; refine wpList_append_own_none rfl _ _ 30 rfl w.heap.size 39 i0 2 Try.underlying30 hi _ 0 [] rfl (World.ownsRow_nil _ _ _ _) rfl ?_))
    refine bodyPost_ret (v := .slice none 0 0) (by simp [results, Try.results33, go_sem]) rfl ⟨_, rfl, Below.refl _ _, World.ownsRow_nil _ _ _ _⟩
  | some ad =>
    have hW : ∀ j u, (zs.flatMap encCell)[j]? = some u → w.cell? (ad.add j) = some u := hs.news
    clear hl
    go_enter Try.func33, Try.ntmps33
    go_wp2_with ((at_builtin; refine wpList_append_own_at _ rfl _ _ 30 rfl w.heap.size 39 i0 _ 2 16 Try.underlying30 hi hz0 hz1 hz2 rfl (by omega) (.slice none 0 0) 0 [] rfl (World.ownsRow_nil _ _ _ _) ad zs.length cap (zs.flatMap encCell) rfl hs.len hW (encCell_one zs) (by unfold maxLen; omega) (by omega) (by simp) ?_; intro v1 w1 hown1 hgrow1 hnil1 hat1; rw [Nat.zero_add, List.nil_append] at hown1; obtain ⟨va, vc, rfl⟩ := own_form hown1; clear hnil1 hat1))
    refine bodyPost_ret (v := .slice va zs.length vc) (by simp [results, Try.results33, go_sem]) rfl ⟨_, rfl, (Below.refl _ _).grown hgrow1 (Nat.le_refl _) (by simp [Value.ownBlock]), hown1⟩
end Go.Proofs.Ytdmamecfmfhlmaa
namespace Go.Proofs.Ytdmamecfmfhlmaa
set_option maxRecDepth 100000
open Go.RowKit

theorem run_make_rowN {P : Program} (t e : TypeId) (i : TypeInfo) (z : Value) (ht : P.underlying t = some (.slice e)) (hi : P.info? e = some i) (hz : i.zero = some z)
    (kl kc : IntKind) (n c : Nat) (hnc : n ≤ c) (hbytes : i.bytes * c ≤ 281474976710656) (h63 : c ≤ 9223372036854775807) (w : World) :
    (Instr.makeSlice t (.int kl (n : Int)) (.int kc (c : Int))).run P w = .ok (.slice (some ⟨w.heap.size, 0, none⟩) n c) (w.alloc (.cells (madeCells z.cells (c * i.size)) e)) := by
  have hb : (i.bytes : Int) * (c : Int) ≤ 281474976710656 := by
    have h : ((i.bytes * c : Nat) : Int) ≤ 281474976710656 := by omega
    rwa [Int.natCast_mul] at h
  have hr := run_make (P := P) w t e i z ht hi hz kl kc n c (by omega) (by omega) hb (by omega)
  simp only [Int.toNat_natCast] at hr
  exact hr
theorem step_copy_eq {P : Program} {ops : Array Oper} {o : Oper} {a : Act} {w : World} {K : Act → World → Prop} {Q : Exit → Act → World → Prop} {E : Prop} (hgd : o.guard = none) (d s : Operand) (t t' : TypeId)
    (ho : o.op = .call { callee := .builtin .copy, args := #[d, s], argTypes := #[t, t'] }) (v u : Value) (hd : a.eval d = v) (hs : a.eval s = u) {v' : Value} {w' : World}
    (hr : (Builtin.copy_ #[t, t'] o.type #[v, u]).run P w = .ok v' w') (h : K (a.put o.dst v') w') :
    if Region.wanted o (yielded ops a.tmps) = true then Oper.wp P o a w K Q else E := by
  have hw : Region.wanted o (yielded ops a.tmps) = true := by simp [Region.wanted, hgd]
  rw [if_pos hw]
  unfold Oper.wp execOp
  simp only [ho, resolve, invoke, builtin, Sem.run_bind, Sem.run_pure, Result.andThen_ok, List.map_toArray, List.map_cons, List.map_nil, hd, hs, hr]
  exact h
theorem grown_of_below {a w : World} (h : Below a.heap.size a w) (row : Option Nat) : a.grownBy w row := ⟨h.os, h.tape, h.output, h.size, fun i hi _ => h.block i hi⟩
theorem own_below {w w' : World} {base : Nat} {e : TypeId} {size n : Nat} {v : Value} {xs : List Value} (h : w.ownsRow base e size v n xs) (hb : Below w.heap.size w w') : w'.ownsRow base e size v n xs :=
  h.kept (grown_of_below hb none) (by cases v.ownBlock <;> simp)
/-- A row of noughts. -/
def zerosA (n : Nat) : Array Value := (List.replicate n (Value.int .u8 0)).toArray
theorem zerosA_get {n j : Nat} (h : j < n) : (zerosA n)[j]? = some (.int .u8 0) := by simp [zerosA, h]
theorem zerosA_size (n : Nat) : (zerosA n).size = n := by simp [zerosA]
theorem infoByteM : (Try.prog.info? 5).map (fun i => (i.zero, i.size, i.bytes)) = some (some (.int .u8 0), 1, 1) := by kernel_rfl
end Go.Proofs.Ytdmamecfmfhlmaa
