/-
  plane.pick: the cells of two lists of which a test says yes.
-/
import Derived.Test.YtffgpjkkgndkiaaTidies
import Derived.Test.YtffgpjkkgndkiaaSorts
import Derived.Test.YtffgpjkkgndkiaaMergeMath
namespace Go.Proofs.Ytffgpjkkgndkiaa
set_option maxRecDepth 100000
open Go.RowKit

/-- Function K answers what keep says. -/
def Keeper (K : Nat) (keep : Bool → Bool → Bool) : Prop := ∀ (a b : Bool) (W : World), Calls Try.prog K #[.bool a, .bool b] W fun e w' => e = .returned (.bool (keep a b)) ∧ W = w'
theorem keeper_or : Keeper 91 (fun a b => a || b) := fun a b W => by
  cases a <;> cases b <;>
  · go_enter Try.func91, Try.ntmps91
    go_wp2_with fail
    go_ret
    exact ⟨rfl, rfl⟩
theorem keeper_and : Keeper 94 (fun a b => a && b) := fun a b W => by
  cases a <;> cases b <;>
  · go_enter Try.func94, Try.ntmps94
    go_wp2_with fail
    go_ret
    exact ⟨rfl, rfl⟩
theorem keeper_minus : Keeper 96 (fun a b => a && !b) := fun a b W => by
  cases a <;> cases b <;>
  · go_enter Try.func96, Try.ntmps96
    go_wp2_with fail
    go_ret
    exact ⟨rfl, rfl⟩
/-- What the closure captured: the test, and the list that grows. -/
structure PickAt (w : World) (bk bo K : Nat) (out : List (Int × Int)) : Prop where
  lt : bk < bo
  test : w.heap[bk]? = some (.cells #[.func (.func K) #[] #[]] 132 (0, 0))
  box : ∃ v, w.heap[bo]? = some (.cells #[v] 22 (0, 0)) ∧ w.ownsRow (bo + 1) 72 2 v out.length (out.flatMap encCell)
set_option maxHeartbeats 2000000 in
theorem add_any (K : Nat) (keep : Bool → Bool → Bool) (hK : Keeper K keep) (hK3 : K = 91 ∨ K = 94 ∨ K = 96) (bk bo : Nat) (out : List (Int × Int)) (c : Int × Int) (p q : Bool) (w : World) (h : PickAt w bk bo K out) (hl : out.length ≤ 100000) :
    Calls Try.prog 126 #[.agg #[.int .i64 c.1, .int .i64 c.2], .bool p, .bool q, .pointer (some ⟨bk, 0, none⟩), .pointer (some ⟨bo, 0, none⟩)] w fun e w' => e = .returned (.tuple #[]) ∧ PickAt w' bk bo K (out ++ if keep p q then [c] else []) ∧ Keeps (fun i => bo ≤ i) w w' := by
  obtain ⟨i0, hi, hz0, hz1, hz2⟩ := info_parts infoCell
  obtain ⟨hlt, ht, v, hb, hown⟩ := h
  obtain ⟨va, vc, rfl⟩ := own_form hown
  obtain ⟨c1, c2⟩ := c
  dsimp only
  have hkl := lt_of_block ht
  have hol := lt_of_block hb
  have hk : ∀ W, Calls Try.prog K #[.bool p, .bool q] W fun e w' => e = .returned (.bool (keep p q)) ∧ W = w' := fun W => hK p q W
  obtain ⟨r, hr⟩ : ∃ r, r = keep p q := ⟨_, rfl⟩
  rw [← hr] at hk ⊢
  have HK := Lib.hid hk
  have x0 : (w.alloc (.cells #[.int .i64 c1, .int .i64 c2] 72)).cell? ⟨bk, 0, none⟩ = some (.func (.func K) #[] #[]) := Joins.cell_of_block (blk_alloc ht _) 0
  clear hk hr
  rcases hK3 with rfl | rfl | rfl
  all_goals
    cases r
    · go_enter Try.func126, Try.ntmps126
      go_wp2_with fail
      refine (HK.out _).mono ?_
      rintro e w2 ⟨rfl, rfl⟩
      go_wp2_with fail
      go_end0
      exact ⟨rfl, ⟨hlt, blk_alloc ht _, _, blk_alloc hb _, hown.alloc _⟩, (Keeps.refl _ _).alloc _⟩
    · have y0 : ((w.alloc (.cells #[.int .i64 c1, .int .i64 c2] 72)).cell? ⟨bo, 0, none⟩) = some (.slice va out.length vc) := Joins.cell_of_block (blk_alloc hb _) 0
      go_enter Try.func126, Try.ntmps126
      go_wp2_with fail
      refine (HK.out _).mono ?_
      rintro e w2 ⟨rfl, rfl⟩
      go_wp2_with (at_builtin; refine wpList_append_lies _ rfl _ _ 22 rfl (bo + 1) 72 i0 _ 2 16 Try.underlying22 hi hz0 hz1 hz2 rfl (by omega) (.slice va out.length vc) out.length (out.flatMap encCell) rfl ((hown.alloc _).alloc _) ⟨w.heap.size + 1, 0, none⟩ 1 1 [.int .i64 c1, .int .i64 c2] rfl rfl (news_alloc _ _ _ (by simp)) (by simp [Value.oneCell']) (by omega) (by unfold maxLen; omega) (by omega) (by simp; omega) (w.heap.size + 2) (by simp) ?_; intro g cap1 w4 hown1 hgrow1 hat1 hlt1; have d := blk_grown hgrow1 (blk_alloc (blk_alloc hb _) _) (own_ne hown (by omega)); have d1 := Joins.cell_of_block d 0; have f1 := Joins.unfrozen_of_block d 0)
      go_end0
      have hown2 : w4.ownsRow (bo + 1) 72 2 (.slice (some ⟨g, 0, none⟩) (out.length + 1) cap1) (out ++ [(c1, c2)]).length ((out ++ [(c1, c2)]).flatMap encCell) := by
        rw [List.length_append, List.flatMap_append]
        exact hown1
      refine ⟨rfl, ⟨hlt, blk_set (blk_grown hgrow1 (blk_alloc (blk_alloc ht _) _) (own_ne hown (by omega))) (by simp; omega) _, _, Joins.block_setCell d _, ?_⟩, (((Keeps.refl _ _).alloc _).alloc _).grown hgrow1 (fun y hy _ => by have := (hown.lt y hy).1; omega) |>.setCell (fun _ => by simp) _⟩
      exact ownsRow_setCell_other hown2 (Ne.symm (own_ne hown2 (k := bo) (by omega))) _
end Go.Proofs.Ytffgpjkkgndkiaa
