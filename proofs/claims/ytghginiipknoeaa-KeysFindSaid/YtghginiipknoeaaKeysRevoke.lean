/-
  For all tables and names, keys.Revoke answers what the document's Revoke answers; no condition.
-/
import Derived.Test.YtghginiipknoeaaKinds
namespace Go.Proofs.Ytghginiipknoeaa
open Go.RowKit

theorem infoKey : (Try.prog.info? 33).map (fun i => (i.zero, i.size, i.bytes)) = some (some (.agg #[.string ⟨#[]⟩, .string ⟨#[]⟩, .int .i64 0]), 3, 40) := by kernel_rfl

def keepK (name : ByteArray) (ks : List KeyD) : List KeyD := ks.filter fun k => !(k.name.toList == name.toList)
theorem keep_yes {name : ByteArray} {ks : List KeyD} {k : Nat} {kd : KeyD} (h : ks[k]? = some kd) (hn : (!kd.name.toList == name.toList) = true) : keepK name (ks.take (k + 1)) = keepK name (ks.take k) ++ [kd] := by
  rw [List.take_add_one, h]; simp [keepK, List.filter_append, hn]
theorem keep_no {name : ByteArray} {ks : List KeyD} {k : Nat} {kd : KeyD} (h : ks[k]? = some kd) (hn : (!kd.name.toList == name.toList) = false) : keepK name (ks.take (k + 1)) = keepK name (ks.take k) := by
  rw [List.take_add_one, h]; simp [keepK, List.filter_append, hn]
theorem keep_le (name : ByteArray) (ks : List KeyD) : (keepK name ks).length ≤ ks.length := List.length_filter_le _ _
theorem keep_take_le (name : ByteArray) (ks : List KeyD) (k : Nat) : (keepK name (ks.take k)).length ≤ k := Nat.le_trans (List.length_filter_le _ _) (List.length_take_le _ _)

/-- The three blocks of the call's own, and what it has kept so far. -/
structure RevInv (w : World) (s : Int) (arg : Value) (kept : List KeyD) (v' : Value) (wr : World) : Prop where
  below : Below w.heap.size w wr
  b0 : wr.heap[w.heap.size]? = some (.cells #[.int .i64 s, arg] 28 (0, 0))
  b1 : wr.heap[w.heap.size + 1]? = some (.cells #[.int .i64 0, .slice none 0 0] 28 (0, 0))
  b2 : wr.heap[w.heap.size + 1 + 1]? = some (.cells #[.int .i64 s, v'] 28 (0, 0))
  own : wr.ownsRow (w.heap.size + 3) 33 3 v' kept.length (kept.flatMap encKey)

/-- What a Revoke leaves: a table with what is kept, and how many are gone. -/
def Revoked (w : World) (s : Int) (name : ByteArray) (ks : List KeyD) (e : Ending) (w' : World) : Prop :=
  ∃ v', e = .returned (.tuple #[.agg #[.int .i64 s, v'], .int .i64 (ks.length - (keepK name ks).length)]) ∧ Below w.heap.size w w' ∧
      w'.ownsRow w.heap.size 33 3 v' (keepK name ks).length ((keepK name ks).flatMap encKey)

set_option maxRecDepth 100000 in
set_option maxHeartbeats 1000000 in
theorem revoke_any (s : Int) (name : ByteArray) (ks : List KeyD) (a : Option Addr) (cap : Nat) (w : World) (hs : Sl w 3 40 a ks.length cap (ks.flatMap encKey)) :
    Calls Try.prog 17 #[.agg #[.int .i64 s, .slice a ks.length cap], .string name] w (Revoked w s name ks) := by
  obtain ⟨i0, hi, hz0, hz1, hz2⟩ := info_parts infoKey
  have hn := hs.wide
  go_enter Try.func17, Try.ntmps17
  go_wp2_with fail
  go_loopw [15] (fun i wr => ∃ k v', k ≤ ks.length ∧ i = .int .i64 (k : Nat) ∧ RevInv w s (.slice a ks.length cap) (keepK name (ks.take k)) v' wr) (fun i _ => ks.length - (intOf i).toNat)
  case atStart =>
    refine ⟨0, .slice none 0 0, Nat.zero_le _, rfl, ⟨?_, ?_, ?_, ?_, ?_⟩⟩
    · exact (((Below.refl _ _).alloc (Nat.le_refl _) _).alloc (by simp) _).alloc (by simp; omega) _
    · exact blk_alloc (blk_alloc (blk_last w _ rfl) _) _
    · exact blk_alloc (blk_last _ _ (by simp)) _
    · exact blk_last _ _ (by simp)
    · exact World.ownsRow_nil _ _ _ _
  case round =>
    obtain ⟨k, v', hk, rfl, hI⟩ := hrel
    by_cases hlt : k < ks.length
    · obtain ⟨kd, hkd⟩ : ∃ kd, ks[k]? = some kd := ⟨ks[k], List.getElem?_eq_getElem hlt⟩
      obtain ⟨b, o, rfl, hrow⟩ := hs.row (by omega)
      have hb := hs.lt (by omega) (by omega)
      have e0 := hrow _ _ (flat_at (k := 3) (enc := encKey) (by omega) (fun _ => rfl) ks k 0 kd hkd (by omega))
      have e1 := hrow _ _ (flat_at (k := 3) (enc := encKey) (by omega) (fun _ => rfl) ks k 1 kd hkd (by omega))
      have e2 := hrow _ _ (flat_at (k := 3) (enc := encKey) (by omega) (fun _ => rfl) ks k 2 kd hkd (by omega))
      have g0 : wr.cell? ⟨b, o + k * 3, none⟩ = some (.string kd.text) := by rw [hI.below.cell hb]; exact e0
      have g1 : wr.cell? ⟨b, o + k * 3 + 1, none⟩ = some (.string kd.name) := by rw [hI.below.cell hb]; exact e1
      have g2 : wr.cell? ⟨b, o + k * 3 + 2, none⟩ = some (.int .i64 kd.rights) := by rw [hI.below.cell hb]; exact e2
      have d0 : wr.cell? ⟨w.heap.size + 1 + 1, 0, none⟩ = some (.int .i64 s) := Joins.cell_of_block hI.b2 0
      have d1 : wr.cell? ⟨w.heap.size + 1 + 1, 1, none⟩ = some v' := Joins.cell_of_block hI.b2 1
      have f1 : wr.frozen? ⟨w.heap.size + 1 + 1, 1, none⟩ = false := Joins.unfrozen_of_block hI.b2 1
      have z2 : w.heap.size + 1 + 1 < wr.heap.size := lt_of_block hI.b2
      clear e0 e1 e2
      have Hkd := Lib.hid hkd
      clear hkd
      have hkl := keep_take_le name ks k
      by_cases hname : (!kd.name.toList == name.toList) = true
      · go_wp2_with ((at_builtin; refine wpList_append_lies _ rfl _ _ 26 rfl (w.heap.size + 3) 33 i0 _ 3 40 Try.underlying26 hi hz0 hz1 hz2 rfl (by omega) v' _ _ rfl ((hI.own.alloc _).alloc _) ⟨wr.heap.size + 1, 0, none⟩ 1 1 (encKey kd) rfl rfl (news_alloc _ _ _ (by simp)) (by simp [encKey, Value.oneCell']) (by omega) (by unfold maxLen; omega) (by omega) (by simp; omega) (wr.heap.size + 2) (by simp) ?_; intro g cap1 w1 hown1 hgrow1 hat1 hlt1; have bb2 := blk_grown hgrow1 (blk_alloc (blk_alloc hI.b2 _) _) (own_ne hI.own (by omega)); have d1' := Joins.cell_of_block bb2 1; have f1' := Joins.unfrozen_of_block bb2 1))
        go_roundw
        case rel =>
          have hk1 := keep_yes Hkd.out hname
          refine ⟨k + 1, .slice (some ⟨g, 0, none⟩) ((keepK name (ks.take k)).length + 1) cap1, by omega, by go_num, ?_⟩
          rw [hk1]
          have hne : some (w.heap.size + 1 + 1) ≠ (Value.slice (some ⟨g, 0, none⟩) ((keepK name (ks.take k)).length + 1) cap1).ownBlock := own_ne hown1 (by omega)
          exact ⟨(((hI.below.alloc (by omega) _).alloc (by simp; omega) _).grown hgrow1 (by simp; omega) (fun j hj => by have := (hI.own.lt j hj).1; omega)).setCell (by simp; omega) _, blk_set (blk_grown hgrow1 (blk_alloc (blk_alloc hI.b0 _) _) (own_ne hI.own (by omega))) (by simp; omega) _, blk_set (blk_grown hgrow1 (blk_alloc (blk_alloc hI.b1 _) _) (own_ne hI.own (by omega))) (by simp) _, by rw [Joins.block_setCell bb2]; rfl,
            by simpa using ownsRow_setCell_other hown1 (Ne.symm hne) _⟩
        case measure => simp [intOf]; omega
      · have hname' : (!kd.name.toList == name.toList) = false := by simpa using hname
        clear hname
        go_wp2_with fail
        go_roundw
        case rel =>
          have hk1 := keep_no Hkd.out hname'
          refine ⟨k + 1, v', by omega, by go_num, ?_⟩
          rw [hk1]
          exact ⟨hI.below.alloc (by omega) _, blk_alloc hI.b0 _, blk_alloc hI.b1 _, blk_alloc hI.b2 _, hI.own.alloc _⟩
        case measure => simp [intOf]; omega
    · obtain rfl : k = ks.length := by omega
      rw [List.take_length] at hI
      have hkl := keep_le name ks
      have a1 : wr.cell? ⟨w.heap.size, 1, none⟩ = some (.slice a ks.length cap) := Joins.cell_of_block hI.b0 1
      have d0 : wr.cell? ⟨w.heap.size + 1 + 1, 0, none⟩ = some (.int .i64 s) := Joins.cell_of_block hI.b2 0
      have d1 : wr.cell? ⟨w.heap.size + 1 + 1, 1, none⟩ = some v' := Joins.cell_of_block hI.b2 1
      have m0 : wr.cell? ⟨w.heap.size + 1, 0, none⟩ = some (.int .i64 0) := Joins.cell_of_block hI.b1 0
      have m1 : wr.cell? ⟨w.heap.size + 1, 1, none⟩ = some (.slice none 0 0) := Joins.cell_of_block hI.b1 1
      have f0 : wr.frozen? ⟨w.heap.size + 1, 0, none⟩ = false := Joins.unfrozen_of_block hI.b1 0
      have f1 : wr.frozen? ⟨w.heap.size + 1, 1, none⟩ = false := Joins.unfrozen_of_block hI.b1 1
      obtain ⟨va, vc, hv⟩ := own_form hI.own
      subst hv
      go_wp2
      go_region
      go_wp2
      refine bodyPost_ret (v := .tuple #[.agg #[.int .i64 s, .slice va (keepK name ks).length vc], .int .i64 (ks.length - (keepK name ks).length)]) (by simp [results, Try.results17, go_sem, m0, m1]) rfl ⟨_, rfl, ?_, ?_⟩
      · exact ((hI.below.drew).setCell (by simp) _).setCell (by simp) _
      · have h1 := Joins.ownsRow_le hI.own (show w.heap.size ≤ w.heap.size + 3 by omega)
        have hne := own_ne hI.own (show w.heap.size + 1 < w.heap.size + 3 by omega)
        exact ownsRow_setCell_other (ownsRow_setCell_other h1.drew (Ne.symm hne) _) (Ne.symm hne) _

set_option maxRecDepth 100000 in
set_option maxHeartbeats 1000000 in
theorem refRevoke_any (s : Int) (name : ByteArray) (ks : List KeyD) (a : Option Addr) (cap : Nat) (w : World) (hs : Sl w 3 40 a ks.length cap (ks.flatMap encKey)) :
    Calls Try.prog 19 #[.agg #[.int .i64 s, .slice a ks.length cap], .string name] w (Revoked w s name ks) := by
  obtain ⟨i0, hi, hz0, hz1, hz2⟩ := info_parts infoKey
  have hn := hs.wide
  go_enter Try.func19, Try.ntmps19
  go_wp2_with fail
  go_loopw [7, 16] (fun c i wr => ∃ k v', k ≤ ks.length ∧ i = .int .i64 (k : Nat) ∧ c = .int .i64 ((k : Int) - (keepK name (ks.take k)).length) ∧ RevInv w s (.slice a ks.length cap) (keepK name (ks.take k)) v' wr) (fun _ i _ => ks.length - (intOf i).toNat)
  case atStart =>
    refine ⟨0, .slice none 0 0, Nat.zero_le _, rfl, by simp [keepK], ⟨?_, ?_, ?_, ?_, ?_⟩⟩
    · exact (((Below.refl _ _).alloc (Nat.le_refl _) _).alloc (by simp) _).alloc (by simp; omega) _
    · exact blk_alloc (blk_alloc (blk_last w _ rfl) _) _
    · exact blk_alloc (blk_last _ _ (by simp)) _
    · exact blk_last _ _ (by simp)
    · exact World.ownsRow_nil _ _ _ _
  case round =>
    obtain ⟨k, v', hk, rfl, rfl, hI⟩ := hrel
    by_cases hlt : k < ks.length
    · obtain ⟨kd, hkd⟩ : ∃ kd, ks[k]? = some kd := ⟨ks[k], List.getElem?_eq_getElem hlt⟩
      obtain ⟨b, o, rfl, hrow⟩ := hs.row (by omega)
      have hb := hs.lt (by omega) (by omega)
      have e0 := hrow _ _ (flat_at (k := 3) (enc := encKey) (by omega) (fun _ => rfl) ks k 0 kd hkd (by omega))
      have e1 := hrow _ _ (flat_at (k := 3) (enc := encKey) (by omega) (fun _ => rfl) ks k 1 kd hkd (by omega))
      have e2 := hrow _ _ (flat_at (k := 3) (enc := encKey) (by omega) (fun _ => rfl) ks k 2 kd hkd (by omega))
      have g0 : wr.cell? ⟨b, o + k * 3, none⟩ = some (.string kd.text) := by rw [hI.below.cell hb]; exact e0
      have g1 : wr.cell? ⟨b, o + k * 3 + 1, none⟩ = some (.string kd.name) := by rw [hI.below.cell hb]; exact e1
      have g2 : wr.cell? ⟨b, o + k * 3 + 2, none⟩ = some (.int .i64 kd.rights) := by rw [hI.below.cell hb]; exact e2
      have d0 : wr.cell? ⟨w.heap.size + 1 + 1, 0, none⟩ = some (.int .i64 s) := Joins.cell_of_block hI.b2 0
      have d1 : wr.cell? ⟨w.heap.size + 1 + 1, 1, none⟩ = some v' := Joins.cell_of_block hI.b2 1
      have f1 : wr.frozen? ⟨w.heap.size + 1 + 1, 1, none⟩ = false := Joins.unfrozen_of_block hI.b2 1
      have z2 : w.heap.size + 1 + 1 < wr.heap.size := lt_of_block hI.b2
      clear e0 e1 e2
      have Hkd := Lib.hid hkd
      clear hkd
      have hkl := keep_take_le name ks k
      by_cases hname : (!kd.name.toList == name.toList) = true
      · have hneg : (kd.name.toList == name.toList) = false := by simpa using hname
        have Hname := Lib.hid hname
        clear hname
        go_wp2_with ((at_builtin; refine wpList_append_lies _ rfl _ _ 26 rfl (w.heap.size + 3) 33 i0 _ 3 40 Try.underlying26 hi hz0 hz1 hz2 rfl (by omega) v' _ _ rfl ((hI.own.alloc _).alloc _) ⟨wr.heap.size + 1, 0, none⟩ 1 1 (encKey kd) rfl rfl (news_alloc _ _ _ (by simp)) (by simp [encKey, Value.oneCell']) (by omega) (by unfold maxLen; omega) (by omega) (by simp; omega) (wr.heap.size + 2) (by simp) ?_; intro g cap1 w1 hown1 hgrow1 hat1 hlt1; have bb2 := blk_grown hgrow1 (blk_alloc (blk_alloc hI.b2 _) _) (own_ne hI.own (by omega)); have d1' := Joins.cell_of_block bb2 1; have f1' := Joins.unfrozen_of_block bb2 1))
        go_roundw
        case rel =>
          have hk1 := keep_yes Hkd.out Hname.out
          refine ⟨k + 1, .slice (some ⟨g, 0, none⟩) ((keepK name (ks.take k)).length + 1) cap1, by omega, by go_num, by rw [hk1]; simp; omega, ?_⟩
          rw [hk1]
          have hne : some (w.heap.size + 1 + 1) ≠ (Value.slice (some ⟨g, 0, none⟩) ((keepK name (ks.take k)).length + 1) cap1).ownBlock := own_ne hown1 (by omega)
          exact ⟨(((hI.below.alloc (by omega) _).alloc (by simp; omega) _).grown hgrow1 (by simp; omega) (fun j hj => by have := (hI.own.lt j hj).1; omega)).setCell (by simp; omega) _, blk_set (blk_grown hgrow1 (blk_alloc (blk_alloc hI.b0 _) _) (own_ne hI.own (by omega))) (by simp; omega) _, blk_set (blk_grown hgrow1 (blk_alloc (blk_alloc hI.b1 _) _) (own_ne hI.own (by omega))) (by simp) _, by rw [Joins.block_setCell bb2]; rfl,
            by simpa using ownsRow_setCell_other hown1 (Ne.symm hne) _⟩
        case measure => simp [intOf]; omega
      · have hpos : (kd.name.toList == name.toList) = true := by simpa using hname
        have Hname := Lib.hid (show (!kd.name.toList == name.toList) = false by simpa using hname)
        clear hname
        go_wp2_with fail
        go_roundw
        case rel =>
          have hk1 := keep_no Hkd.out Hname.out
          refine ⟨k + 1, v', by omega, by go_num, by rw [hk1]; simp; omega, ?_⟩
          rw [hk1]
          exact ⟨hI.below.alloc (by omega) _, blk_alloc hI.b0 _, blk_alloc hI.b1 _, blk_alloc hI.b2 _, hI.own.alloc _⟩
        case measure => simp [intOf]; omega
    · obtain rfl : k = ks.length := by omega
      rw [List.take_length] at hI ⊢
      have hkl := keep_le name ks
      have d0 : wr.cell? ⟨w.heap.size + 1 + 1, 0, none⟩ = some (.int .i64 s) := Joins.cell_of_block hI.b2 0
      have d1 : wr.cell? ⟨w.heap.size + 1 + 1, 1, none⟩ = some v' := Joins.cell_of_block hI.b2 1
      have m0 : wr.cell? ⟨w.heap.size + 1, 0, none⟩ = some (.int .i64 0) := Joins.cell_of_block hI.b1 0
      have m1 : wr.cell? ⟨w.heap.size + 1, 1, none⟩ = some (.slice none 0 0) := Joins.cell_of_block hI.b1 1
      have f0 : wr.frozen? ⟨w.heap.size + 1, 0, none⟩ = false := Joins.unfrozen_of_block hI.b1 0
      have f1 : wr.frozen? ⟨w.heap.size + 1, 1, none⟩ = false := Joins.unfrozen_of_block hI.b1 1
      obtain ⟨va, vc, hv⟩ := own_form hI.own
      subst hv
      go_wp2
      refine bodyPost_ret (v := .tuple #[.agg #[.int .i64 s, .slice va (keepK name ks).length vc], .int .i64 (ks.length - (keepK name ks).length)]) (by simp [results, Try.results19, go_sem, m0, m1]) rfl ⟨_, rfl, ?_, ?_⟩
      · exact (hI.below.setCell (by simp) _).setCell (by simp) _
      · have h1 := Joins.ownsRow_le hI.own (show w.heap.size ≤ w.heap.size + 3 by omega)
        have hne := own_ne hI.own (show w.heap.size + 1 < w.heap.size + 3 by omega)
        exact ownsRow_setCell_other (ownsRow_setCell_other h1 (Ne.symm hne) _) (Ne.symm hne) _
end Go.Proofs.Ytghginiipknoeaa
