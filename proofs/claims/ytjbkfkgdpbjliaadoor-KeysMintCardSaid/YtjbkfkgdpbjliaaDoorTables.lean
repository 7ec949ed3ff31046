/-
  Tables: the copy of a table, and that two tables of the same keys are found alike.
-/
import Derived.Test.YtjbkfkgdpbjliaaDoorKeysRevoke
import Derived.Laws.AppendOwnNone
namespace Go.Proofs.YtjbkfkgdpbjliaaDoor
set_option maxRecDepth 100000
open Go.RowKit

set_option maxRecDepth 100000 in
set_option maxHeartbeats 1000000 in
theorem sameTable_any (s : Int) (ks : List KeyD) (a a' : Option Addr) (cap cap' : Nat) (w : World) (h1 : Sl w 3 40 a ks.length cap (ks.flatMap encKey)) (h2 : Sl w 3 40 a' ks.length cap' (ks.flatMap encKey)) :
    Calls Tryd.prog 7 #[.agg #[.int .i64 s, .slice a ks.length cap], .agg #[.int .i64 s, .slice a' ks.length cap']] w fun e w' => e = .returned (.bool true) ∧ Below w.heap.size w w' := by
  have hn := h1.wide
  go_enter Tryd.func7, Tryd.ntmps7
  go_wp2_with fail
  go_loopw [23] (fun i wr => ∃ k, k ≤ ks.length ∧ i = .int .i64 (k : Nat) ∧ ∃ x : Grow ((w.alloc (.cells #[.int .i64 s, .slice a ks.length cap] 24)).alloc (.cells #[.int .i64 s, .slice a' ks.length cap'] 24)), wr = x.val) (fun i _ => ks.length - (intOf i).toNat)
  case atStart =>
    exact ⟨0, Nat.zero_le _, rfl, ⟨_, Below.refl _ _⟩, rfl⟩
  case round =>
    obtain ⟨k, hk, rfl, x, rfl⟩ := hrel
    by_cases hlt : k < ks.length
    · obtain ⟨kd, hkd⟩ : ∃ kd, ks[k]? = some kd := ⟨ks[k], List.getElem?_eq_getElem hlt⟩
      obtain ⟨b, o, rfl, hrow⟩ := h1.row (by omega)
      obtain ⟨b', o', rfl, hrow'⟩ := h2.row (by omega)
      have hb := h1.lt (by omega) (by omega)
      have hb' := h2.lt (by omega) (by omega)
      have hB := (((Below.refl _ _).alloc (Nat.le_refl _) _).alloc (by simp) _).trans (x.below.mono (show w.heap.size ≤ _ by simp; omega))
      have e0 := hrow _ _ (flat_at (k := 3) (enc := encKey) (by omega) (fun _ => rfl) ks k 0 kd hkd (by omega))
      have e1 := hrow _ _ (flat_at (k := 3) (enc := encKey) (by omega) (fun _ => rfl) ks k 1 kd hkd (by omega))
      have e2 := hrow _ _ (flat_at (k := 3) (enc := encKey) (by omega) (fun _ => rfl) ks k 2 kd hkd (by omega))
      have g0 : x.val.cell? ⟨b, o + k * 3, none⟩ = some (.string kd.text) := by rw [hB.cell hb]; exact e0
      have g1 : x.val.cell? ⟨b, o + k * 3 + 1, none⟩ = some (.string kd.name) := by rw [hB.cell hb]; exact e1
      have g2 : x.val.cell? ⟨b, o + k * 3 + 2, none⟩ = some (.int .i64 kd.rights) := by rw [hB.cell hb]; exact e2
      have e0 := hrow' _ _ (flat_at (k := 3) (enc := encKey) (by omega) (fun _ => rfl) ks k 0 kd hkd (by omega))
      have e1 := hrow' _ _ (flat_at (k := 3) (enc := encKey) (by omega) (fun _ => rfl) ks k 1 kd hkd (by omega))
      have e2 := hrow' _ _ (flat_at (k := 3) (enc := encKey) (by omega) (fun _ => rfl) ks k 2 kd hkd (by omega))
      have q0 : x.val.cell? ⟨b', o' + k * 3, none⟩ = some (.string kd.text) := by rw [hB.cell hb']; exact e0
      have q1 : x.val.cell? ⟨b', o' + k * 3 + 1, none⟩ = some (.string kd.name) := by rw [hB.cell hb']; exact e1
      have q2 : x.val.cell? ⟨b', o' + k * 3 + 2, none⟩ = some (.int .i64 kd.rights) := by rw [hB.cell hb']; exact e2
      have d1 : x.val.cell? ⟨w.heap.size, 1, none⟩ = some (.slice (some ⟨b, o, none⟩) ks.length cap) := x.cell (by simp)
      have d2 : x.val.cell? ⟨w.heap.size + 1, 1, none⟩ = some (.slice (some ⟨b', o', none⟩) ks.length cap') := x.cell (by simp)
      have i1 : (0 : Int) ≤ (k : Int) := by omega
      have i2 : (k : Int) < (ks.length : Int) := by omega
      clear hkd e0 e1 e2
      go_wp2_with fail
      go_quiet (fail)
      go_wp2_with fail
      exact ⟨⟨k + 1, by omega, by go_num, ⟨_, x.below.trans (Joins.below_draws _ _ _)⟩, rfl⟩, by simp [intOf]; omega⟩
    · obtain rfl : k = ks.length := by omega
      go_wp2_with fail
      go_ret
      exact ⟨rfl, (((Below.refl _ _).alloc (Nat.le_refl _) _).alloc (by simp) _).trans (x.below.mono (show w.heap.size ≤ _ by simp; omega))⟩

/-- A table copied: what it holds is the call's own. -/
def Copied (w : World) (s : Int) (ks : List KeyD) (e : Ending) (w' : World) : Prop :=
  ∃ v', e = .returned (.agg #[.int .i64 s, v']) ∧ Below w.heap.size w w' ∧ w'.ownsRow w.heap.size 36 3 v' ks.length (ks.flatMap encKey)

theorem enc_one (ks : List KeyD) : ∀ u ∈ ks.flatMap encKey, u.oneCell' = true := by
  intro u hu
  obtain ⟨k, _, h⟩ := List.mem_flatMap.1 hu
  simp only [encKey, List.mem_cons, List.not_mem_nil, or_false] at h
  rcases h with rfl | rfl | rfl <;> rfl
set_option maxRecDepth 100000 in
set_option maxHeartbeats 1000000 in
theorem table_any (s : Int) (ks : List KeyD) (a : Option Addr) (cap : Nat) (w : World) (hs : Sl w 3 40 a ks.length cap (ks.flatMap encKey)) :
    Calls Tryd.prog 5 #[.agg #[.int .i64 s, .slice a ks.length cap]] w (Copied w s ks) := by
  obtain ⟨i0, hi, hz0, hz1, hz2⟩ := info_parts infoKey
  have hn := hs.wide
  have hl := hs.len
  match ha : a with
  | none =>
    have hc : cap = 0 := hs.nil rfl
    have hk0 : ks = [] := List.eq_nil_of_length_eq_zero (by have := hs.room; omega)
    subst hc
    subst hk0
    clear hl hn
    go_enter Tryd.func5, Tryd.ntmps5
    go_wp2_with ((at_builtin; refine wpList_append_own_none rfl _ _ 22 rfl w.heap.size 36 i0 3 Tryd.underlying22 hi _ 0 [] rfl (World.ownsRow_nil _ _ _ _) rfl ?_))
    refine bodyPost_ret (v := .agg #[.int .i64 s, .slice none 0 0]) (by simp [results, Tryd.results5, go_sem]) rfl ⟨_, rfl, ?_, World.ownsRow_nil _ _ _ _⟩
    exact ((Below.refl _ _).alloc (Nat.le_refl _) _).alloc (by simp) _
  | some ad =>
    have hW : ∀ (o1 o2 : Obj), ∀ j u, (ks.flatMap encKey)[j]? = some u → ((w.alloc o1).alloc o2).cell? (ad.add j) = some u := fun o1 o2 =>
      (hs.below (by omega) (((Below.refl _ _).alloc (Nat.le_refl _) o1).alloc (by simp) o2)).news
    clear hl
    go_enter Tryd.func5, Tryd.ntmps5
    go_wp2_with ((at_builtin; refine wpList_append_own_at _ rfl _ _ 22 rfl (w.heap.size + 2) 36 i0 _ 3 40 Tryd.underlying22 hi hz0 hz1 hz2 rfl (by omega) (.slice none 0 0) 0 [] rfl (World.ownsRow_nil _ _ _ _) ad ks.length cap (ks.flatMap encKey) rfl hs.len (hW _ _) (enc_one ks) (by unfold maxLen; omega) (by omega) (by simp) ?_; intro v1 w1 hown1 hgrow1 hnil1 hat1; rw [Nat.zero_add, List.nil_append] at hown1; obtain ⟨va, vc, rfl⟩ := own_form hown1; have bb1 := blk_grown hgrow1 (blk_last _ _ (n := w.heap.size + 1) (by simp)) (by simp [Value.ownBlock]); have bb0 := blk_grown hgrow1 (blk_alloc (blk_last w _ rfl) _) (by simp [Value.ownBlock]); have m0 := Joins.cell_of_block bb0 0; have m1 := Joins.cell_of_block bb0 1; have f1 := Joins.unfrozen_of_block bb0 1; have r0 := Joins.cell_of_block bb1 0; have r1 := Joins.cell_of_block bb1 1; have g0 := Joins.unfrozen_of_block bb1 0; have g1 := Joins.unfrozen_of_block bb1 1; clear hnil1 hat1))
    have hb1 : Below w.heap.size w w1 := (((Below.refl _ _).alloc (Nat.le_refl _) _).alloc (by simp) _).grown hgrow1 (by simp; omega) (by simp [Value.ownBlock])
    have hne0 := own_ne hown1 (show w.heap.size < w.heap.size + 2 by omega)
    have hne1 := own_ne hown1 (show w.heap.size + 1 < w.heap.size + 2 by omega)
    refine bodyPost_ret (v := .agg #[.int .i64 s, .slice va ks.length vc]) (by simp [results, Tryd.results5, go_sem, r0, r1]) rfl ⟨_, rfl, ?_, ?_⟩
    · exact ((hb1.setCell (by simp) _).setCell (by simp) _).setCell (by simp) _
    · exact ownsRow_setCell_other (ownsRow_setCell_other (ownsRow_setCell_other (Joins.ownsRow_le hown1 (by omega)) (Ne.symm hne0) _) (Ne.symm hne1) _) (Ne.symm hne1) _
end Go.Proofs.YtjbkfkgdpbjliaaDoor
