/-
  words, give, SetInt64, NewInt.
-/
import Derived.Test.YtjbkfkgdpbjliaaDoorWords
namespace Go.Proofs.YtjbkfkgdpbjliaaDoor
set_option maxRecDepth 100000
open Go.RowKit

theorem sl_fresh {w : World} {b : Nat} {ws : List Nat} {ty : TypeId} (hb : w.heap[b]? = some (.cells (ws.map u32V).toArray ty (0, 0))) (h0 : ws.length ≤ 1000000) : Sl w 1 4 (some ⟨b, 0, none⟩) ws.length ws.length (ws.map u32V) where
  len := by simp
  room := Nat.le_refl _
  fits := by unfold maxLen; omega
  nil := fun h => by cases h
  wide := by omega
  row := fun _ => ⟨b, 0, rfl, fun j u hu => by rw [Nat.zero_add, Joins.cell_of_block hb]; simpa using hu⟩
set_option maxHeartbeats 1000000 in
theorem words_any (x : Nat) (w : World) (hx : x < 18446744073709551616) :
    Calls Tryd.prog 36 #[.int .u64 x] w fun e w' => (∃ v, e = .returned v ∧ AbsOf w' v x) ∧ Below w.heap.size w w' := by
  go_enter Tryd.func36, Tryd.ntmps36
  go_wp2_with fail
  have hw : valW [x % 4294967296, x / 4294967296] = x := by simp [valW]; omega
  have hsl : Sl (w.alloc (.cells #[.int .u32 (x % 4294967296), .int .u32 (x / 4294967296)] 66)) 1 4 (some ⟨w.heap.size, 0, none⟩) [x % 4294967296, x / 4294967296].length 2 ([x % 4294967296, x / 4294967296].map u32V) :=
    sl_fresh (ty := 66) (by rw [blk_last w _ rfl]; simp [u32V]) (by simp)
  refine (trim_any [x % 4294967296, x / 4294967296] _ _ _ (by simp) (by simp; omega) hsl (fun b o x hx => by cases hx; exact ⟨_, _, blk_last w _ rfl⟩)).mono ?_
  rw [hw]
  rintro e w' ⟨⟨v, rfl, hv⟩, rfl⟩
  clear hw hsl
  have HV := Lib.hid hv
  clear hv
  go_wp2_with fail
  go_ret
  exact ⟨⟨v, rfl, HV.out⟩, (Below.refl _ _).alloc (Nat.le_refl _) _⟩
/-- Block p is a whole number. -/
def BigBlk (w : World) (p : Nat) : Prop := ∃ f a n c, w.heap[p]? = some (.cells #[.bool f, .slice a n c] 42 (0, 0))
/-- Block p is the number n. -/
def BigAt (w : World) (p n : Nat) : Prop := ∃ v, w.heap[p]? = some (.cells #[.bool false, v] 42 (0, 0)) ∧ AbsOf w v n
theorem BigAt.blk {w : World} {p n : Nat} (h : BigAt w p n) : BigBlk w p := by
  obtain ⟨v, hb, a, c, rfl, _, _⟩ := h
  exact ⟨false, a, _, c, hb⟩
theorem BigBlk.lt {w : World} {p : Nat} (h : BigBlk w p) : p < w.heap.size := by obtain ⟨_, _, _, _, h⟩ := h; exact lt_of_block h
theorem BigAt.lt {w : World} {p n : Nat} (h : BigAt w p n) : p < w.heap.size := h.blk.lt
/-- The words of a number keep in a world in which blocks of words keep. -/
theorem AbsOf.keepT {w w' : World} {v : Value} {n : Nat} (h : AbsOf w v n) (hk : ∀ (b : Nat) (arr : Array Value) (fr : Nat × Nat), w.heap[b]? = some (.cells arr 66 fr) → w'.heap[b]? = w.heap[b]?) : AbsOf w' v n := by
  obtain ⟨a, c, e, hs, ht⟩ := h
  refine ⟨a, c, e, ⟨hs.len, hs.room, hs.fits, hs.nil, hs.wide, fun h0 => ?_⟩, fun b o x hx => ?_⟩
  · obtain ⟨b, o, ea, hr⟩ := hs.row h0
    obtain ⟨arr, fr, hb⟩ := ht b o none ea
    refine ⟨b, o, ea, fun j u hu => ?_⟩
    rw [World.cell?_of_block (hk b arr fr hb)]
    exact hr j u hu
  · obtain ⟨arr, fr, hb⟩ := ht b o x hx
    exact ⟨arr, fr, (hk b arr fr hb).trans hb⟩
theorem AbsOf.keep {w w' : World} {v : Value} {n p : Nat} (h : AbsOf w v n) (hp : BigBlk w p) (hk : Keeps (fun i => i = p) w w') : AbsOf w' v n :=
  h.keepT fun b arr fr hb => hk.block b (lt_of_block hb) (by
    rintro rfl
    obtain ⟨f, sa, sn, sc, h2⟩ := hp
    rw [hb] at h2
    simp at h2)
theorem BigAt.keep {w w' : World} {p q n : Nat} (h : BigAt w q n) (hp : BigBlk w p) (hne : q ≠ p) (hk : Keeps (fun i => i = p) w w') : BigAt w' q n := by
  have hl := h.lt
  obtain ⟨v, hb, ha⟩ := h
  exact ⟨v, (hk.block q hl hne).trans hb, ha.keep hp hk⟩
theorem BigAt.below {w w' : World} {p n : Nat} (h : BigAt w p n) (hb : Below w.heap.size w w') : BigAt w' p n := by
  obtain ⟨v, h1, h2⟩ := h
  exact ⟨v, (hb.block p (lt_of_block h1)).trans h1, h2.below hb⟩
set_option maxHeartbeats 1000000 in
theorem give_any (p n : Nat) (v : Value) (w : World) (hp : BigBlk w p) (hv : AbsOf w v n) :
    Calls Tryd.prog 31 #[.pointer (some ⟨p, 0, none⟩), .bool false, v] w fun e w' => e = .returned (.pointer (some ⟨p, 0, none⟩)) ∧ BigAt w' p n ∧ Keeps (fun i => i = p) w w' := by
  have HP := Lib.hid hp
  have HV := Lib.hid hv
  obtain ⟨f, sa, sn, sc, hb⟩ := hp
  obtain ⟨a, c, rfl, hs, _⟩ := hv
  obtain ⟨L, hL⟩ : ∃ L, L = (wordsN n).length := ⟨_, rfl⟩
  have HL := Lib.hid hL
  have hL2 : L ≤ 140737488351232 := by rw [hL]; have := hs.wide; omega
  rw [← hL] at HV ⊢
  have hlt := lt_of_block hb
  have f0 : w.frozen? ⟨p, 0, none⟩ = false := Joins.unfrozen_of_block hb 0
  have f1 : w.frozen? ⟨p, 1, none⟩ = false := Joins.unfrozen_of_block hb 1
  have c0 : w.cell? ⟨p, 0, none⟩ = some (.bool f) := Joins.cell_of_block hb 0
  have c1 : w.cell? ⟨p, 1, none⟩ = some (.slice sa sn sc) := Joins.cell_of_block hb 1
  have hb2 := Joins.block_setCell (Joins.block_setCell (i := 1) hb (.slice a L c)) (i := 0) (.bool false)
  have hk2 : Keeps (fun i => i = p) w ((w.setCell ⟨p, 1, none⟩ (.slice a L c)).setCell ⟨p, 0, none⟩ (.bool false)) := Keeps.setCell (Keeps.setCell (Keeps.refl (fun i => i = p) w) (p := ⟨p, 1, none⟩) (fun _ => rfl) _) (p := ⟨p, 0, none⟩) (fun _ => rfl) _
  have HB2 := Lib.hid hb2
  have HK2 := Lib.hid hk2
  clear hs hL hb hb2 hk2
  go_enter Tryd.func31, Tryd.ntmps31
  go_wp2_with fail
  go_ret
  refine ⟨rfl, ⟨.slice a L c, ?_, ?_⟩, HK2.out⟩
  · have := HB2.out
    simpa using this
  · exact HV.out.keep HP.out HK2.out
theorem BigBlk.below {w w' : World} {p : Nat} (h : BigBlk w p) (hb : Below w.heap.size w w') : BigBlk w' p := by
  have hl := h.lt
  obtain ⟨f, a, n, c, h⟩ := h
  exact ⟨f, a, n, c, (hb.block p hl).trans h⟩
set_option maxHeartbeats 1000000 in
theorem setInt64_any (p n : Nat) (w : World) (hp : BigBlk w p) (hn : n < 9223372036854775808) :
    Calls Tryd.prog 33 #[.pointer (some ⟨p, 0, none⟩), .int .i64 n] w fun e w' => e = .returned (.pointer (some ⟨p, 0, none⟩)) ∧ BigAt w' p n ∧ Keeps (fun i => i = p) w w' := by
  have HP := Lib.hid hp
  clear hp
  go_enter Tryd.func33, Tryd.ntmps33
  go_wp2_with fail
  refine (words_any n w (by omega)).mono ?_
  rintro e w1 ⟨⟨v, rfl, hv⟩, hb⟩
  have HG := Lib.hid (give_any p n v w1 (HP.out.below hb) hv)
  have HK := Lib.hid (Keeps.of_below (F := fun i => i = p) hb)
  clear hv hb
  go_wp2_with fail
  refine HG.out.mono ?_
  rintro e w2 ⟨rfl, h1, h2⟩
  have H1 := Lib.hid h1
  have H2 := Lib.hid (HK.out.trans h2 (fun _ _ h => h))
  clear h1 h2
  go_wp2_with fail
  go_ret
  exact ⟨rfl, H1.out, H2.out⟩
set_option maxHeartbeats 1000000 in
theorem newInt_any (n : Nat) (w : World) (hn : n < 9223372036854775808) :
    Calls Tryd.prog 15 #[.int .i64 n] w fun e w' => e = .returned (.pointer (some ⟨w.heap.size, 0, none⟩)) ∧ BigAt w' w.heap.size n ∧ Below w.heap.size w w' := by
  go_enter Tryd.func15, Tryd.ntmps15
  go_wp2_with fail
  have hb : (w.alloc (.cells #[.bool false, .slice none 0 0] 42)).heap[w.heap.size]? = some (.cells #[.bool false, .slice none 0 0] 42 (0, 0)) := blk_last w _ rfl
  refine (setInt64_any w.heap.size n _ ⟨false, none, 0, 0, hb⟩ hn).mono ?_
  rintro e w2 ⟨rfl, h1, h2⟩
  have H1 := Lib.hid h1
  have H2 := Lib.hid (((Below.refl w.heap.size w).alloc (Nat.le_refl _) (.cells #[.bool false, .slice none 0 0] 42)).trans (h2.toBelow (fun i h => by rw [h]; exact Nat.le_refl _) (by simp)))
  clear h1 h2 hb
  go_wp2_with fail
  go_ret
  exact ⟨rfl, H1.out, H2.out⟩
end Go.Proofs.YtjbkfkgdpbjliaaDoor
