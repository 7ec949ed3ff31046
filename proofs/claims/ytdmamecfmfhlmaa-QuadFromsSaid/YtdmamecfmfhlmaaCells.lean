/-
  The copy of a list of cells.
-/
import Derived.Test.YtdmamecfmfhlmaaKinds
import Derived.Laws.AppendOwnNone
namespace Go.Proofs.Ytdmamecfmfhlmaa
set_option maxRecDepth 100000
open Go.RowKit

theorem infoCell : (Try.prog.info? 39).map (fun i => (i.zero, i.size, i.bytes)) = some (some (.agg #[.int .i64 0, .int .i64 0]), 2, 16) := by kernel_rfl

theorem sl_own_up {w w' : World} {base : Nat} {e : TypeId} {k bytes n : Nat} {a : Option Addr} {cap : Nat} {fl : List Value} (h : w.ownsRow base e k (.slice a n cap) n fl) (hk : 0 < k) (hb : n * bytes ≤ 140737488351232) (hg : Below w.heap.size w w') : Sl w' k bytes a n cap fl := by
  obtain ⟨a', c', e1, hs⟩ := sl_of_own h hb
  simp only [Value.slice.injEq, true_and] at e1
  obtain ⟨rfl, rfl⟩ := e1
  exact hs.below hk hg

theorem encCell_one (zs : List (Int × Int)) : ∀ u ∈ zs.flatMap encCell, u.oneCell' = true := by
  intro u hu
  obtain ⟨k, _, h⟩ := List.mem_flatMap.1 hu
  simp only [encCell, List.mem_cons, List.not_mem_nil, or_false] at h
  rcases h with rfl | rfl <;> rfl

/-- A list of cells that the call owns. -/
def Cells (w : World) (zs : List (Int × Int)) (e : Ending) (w' : World) : Prop :=
  ∃ v', e = .returned v' ∧ Below w.heap.size w w' ∧ w'.ownsRow w.heap.size 39 2 v' zs.length (zs.flatMap encCell)

set_option maxRecDepth 100000 in
set_option maxHeartbeats 1000000 in
theorem cells_any (zs : List (Int × Int)) (a : Option Addr) (cap : Nat) (w : World) (hs : Sl w 2 16 a zs.length cap (zs.flatMap encCell)) :
    Calls Try.prog 33 #[.slice a zs.length cap] w (Cells w zs) := by
  obtain ⟨i0, hi, hz0, hz1, hz2⟩ := info_parts infoCell
  have hn := hs.wide
  have hl := hs.len
  match ha : a with
  | none =>
    have hc : cap = 0 := hs.nil rfl
    have hk0 : zs = [] := List.eq_nil_of_length_eq_zero (by have := hs.room; omega)
    subst hc
    subst hk0
    clear hl hn
    go_enter Try.func33, Try.ntmps33
    go_wp2_with ((at_builtin; refine wpList_append_own_none rfl _ _ 30 rfl w.heap.size 39 i0 2 Try.underlying30 hi _ 0 [] rfl (World.ownsRow_nil _ _ _ _) rfl ?_))
    refine bodyPost_ret (v := .slice none 0 0) (by simp [results, Try.results33, go_sem]) rfl ⟨_, rfl, Below.refl _ _, World.ownsRow_nil _ _ _ _⟩
  | some ad =>
    have hW : ∀ j u, (zs.flatMap encCell)[j]? = some u → w.cell? (ad.add j) = some u := hs.news
    clear hl
    go_enter Try.func33, Try.ntmps33
    go_wp2_with ((at_builtin; refine wpList_append_own_at _ rfl _ _ 30 rfl w.heap.size 39 i0 _ 2 16 Try.underlying30 hi hz0 hz1 hz2 rfl (by omega) (.slice none 0 0) 0 [] rfl (World.ownsRow_nil _ _ _ _) ad zs.length cap (zs.flatMap encCell) rfl hs.len hW (encCell_one zs) (by unfold maxLen; omega) (by omega) (by simp) ?_; intro v1 w1 hown1 hgrow1 hnil1 hat1; rw [Nat.zero_add, List.nil_append] at hown1; obtain ⟨va, vc, rfl⟩ := own_form hown1; clear hnil1 hat1))
    refine bodyPost_ret (v := .slice va zs.length vc) (by simp [results, Try.results33, go_sem]) rfl ⟨_, rfl, (Below.refl _ _).grown hgrow1 (Nat.le_refl _) (by simp [Value.ownBlock]), hown1⟩
end Go.Proofs.Ytdmamecfmfhlmaa
