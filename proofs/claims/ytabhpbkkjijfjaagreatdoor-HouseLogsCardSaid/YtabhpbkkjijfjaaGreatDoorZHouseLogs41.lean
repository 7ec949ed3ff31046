/-
  Lists of 32-bit words: what trim and words answer; words, give, SetInt64, NewInt.
-/
import Derived.Test.YtabhpbkkjijfjaaGreatDoorWordMath
import Derived.Test.YtabhpbkkjijfjaaGreatDoorZHouseLogs2
import Derived.Test.YtabhpbkkjijfjaaGreatDoorZHouseLogsFoot
namespace Go.Proofs.YtabhpbkkjijfjaaGreatDoor
set_option maxRecDepth 100000
open Go.RowKit

def u32V (k : Nat) : Value := .int .u32 k
/-- v is the words of n. -/
def AbsOf (w : World) (v : Value) (n : Nat) : Prop := ∃ a c, v = .slice a (wordsN n).length c ∧ Sl w 1 4 a (wordsN n).length c ((wordsN n).map u32V) ∧ ∀ b o x, a = some ⟨b, o, x⟩ → ∃ arr fr, w.heap[b]? = some (.cells arr 175 fr)
theorem AbsOf.below {w w' : World} {v : Value} {n : Nat} (h : AbsOf w v n) (hb : Below w.heap.size w w') : AbsOf w' v n := by
  obtain ⟨a, c, e, hs, ht⟩ := h
  exact ⟨a, c, e, hs.below (by omega) hb, fun b o x hx => by
    obtain ⟨arr, fr, h1⟩ := ht b o x hx
    exact ⟨arr, fr, (hb.block b (lt_of_block h1)).trans h1⟩⟩
theorem sl_words {w : World} {a : Option Addr} {c : Nat} {ws : List Nat} (h : Sl w 1 4 a ws.length c (ws.map u32V)) {m : Nat} (hm : m ≤ ws.length) : Sl w 1 4 a m c ((ws.take m).map u32V) where
  len := by rw [List.length_map, List.length_take]; omega
  room := Nat.le_trans hm h.room
  fits := h.fits
  nil := h.nil
  wide := Nat.le_trans (Nat.mul_le_mul_right _ hm) h.wide
  row := fun h0 => by
    obtain ⟨b, o, e, hr⟩ := h.row (by omega)
    refine ⟨b, o, e, fun j u hu => hr j u ?_⟩
    rw [List.map_take, List.getElem?_take] at hu
    split at hu
    · exact hu
    · cases hu
set_option maxHeartbeats 1000000 in
theorem trim_any (ws : List Nat) (a : Option Addr) (c : Nat) (w : World) (h0 : 0 < ws.length) (hlt : ∀ x ∈ ws, x < 4294967296) (hs : Sl w 1 4 a ws.length c (ws.map u32V)) (hty : ∀ b o x, a = some ⟨b, o, x⟩ → ∃ arr fr, w.heap[b]? = some (.cells arr 175 fr)) :
    Calls Tryz.prog 126 #[.slice a ws.length c] w fun e w' => (∃ v, e = .returned v ∧ AbsOf w v (valW ws)) ∧ w' = w := by
  have hwide := hs.wide
  have hroom := hs.room
  have hfits := hs.fits
  obtain ⟨b, o, rfl, hr⟩ := hs.row h0
  have HTY := Lib.hid hty
  have HS := Lib.hid hs
  have HLT := Lib.hid hlt
  obtain ⟨L, hL⟩ : ∃ L, L = ws.length := ⟨_, rfl⟩
  have HL := Lib.hid hL
  rw [← hL] at hwide hroom h0 ⊢
  clear hs hlt hL hty
  go_enter Tryz.func126, Tryz.ntmps126
  go_wp2_with fail
  go_loopw [3] (fun n wr => ∃ k : Nat, n = .int .i64 k ∧ k ≤ L ∧ (∀ x ∈ ws.drop k, x = 0) ∧ wr = w) (fun n _ => (intOf n).toNat)
  case atStart => exact ⟨L, rfl, Nat.le_refl _, by rw [HL.out, List.drop_length]; simp, rfl⟩
  case round =>
    obtain ⟨k, rfl, hk, hz, hw⟩ := hrel
    subst hw
    have HZ := Lib.hid hz
    clear hz
    rcases Nat.eq_zero_or_pos k with rfl | hk0
    · have ht := trim_words HLT.out HZ.out (Nat.zero_le _) (.inl rfl)
      have hd : decide (0 < ((0 : Nat) : Int)) = false := by decide
      go_wp2_with fail
      go_ret
      refine ⟨⟨_, rfl, some ⟨b, o, none⟩, c, ?_, ?_, HTY.out⟩, rfl⟩
      · rw [← ht]; simp
      · rw [← ht]; exact sl_words HS.out (Nat.zero_le _)
    · obtain ⟨j, rfl⟩ : ∃ j, k = j + 1 := ⟨k - 1, by omega⟩
      obtain ⟨x, hx⟩ : ∃ x, ws[j]? = some x := ⟨ws[j]'(by have := HL.out; omega), by simp⟩
      have hc : wr.cell? ⟨b, o + j, none⟩ = some (.int .u32 x) := hr j _ (by rw [List.getElem?_map, hx]; rfl)
      have hd : decide (0 < ((j + 1 : Nat) : Int)) = true := decide_eq_true (by omega)
      have hj : ((j + 1 : Nat) : Int) - 1 = (j : Int) := by omega
      by_cases hx0 : x = 0
      · subst hx0
        have HX := Lib.hid hx
        clear hx
        go_wp2_with fail
        refine ⟨⟨j, by go_num, by omega, fun y hy => ?_, by first | rfl | trivial⟩, by simp [intOf]⟩
        rw [List.drop_eq_getElem_cons (by have := HL.out; omega)] at hy
        rcases List.mem_cons.1 hy with rfl | hy
        · have := HX.out
          rw [List.getElem?_eq_getElem (by have := HL.out; omega)] at this
          exact Option.some.inj this
        · exact HZ.out y hy
      · have ht := trim_words HLT.out HZ.out (by rw [← HL.out]; exact hk) (.inr (by rw [Nat.add_sub_cancel, hx]; simpa using hx0))
        have HT := Lib.hid ht
        have hxe : ((x : Int) == 0) = false := by simp; omega
        clear hx ht
        go_wp2_with fail
        go_ret
        refine ⟨⟨.slice (some ⟨b, o, none⟩) (j + 1) c, rfl, some ⟨b, o, none⟩, c, ?_, ?_, HTY.out⟩, rfl⟩
        · rw [← HT.out, List.length_take, ← HL.out, Nat.min_eq_left hk]
        · rw [← HT.out]
          have := sl_words HS.out (m := j + 1) (by rw [← HL.out]; exact hk)
          rwa [List.length_take, ← HL.out, Nat.min_eq_left hk]
end Go.Proofs.YtabhpbkkjijfjaaGreatDoor
namespace Go.Proofs.YtabhpbkkjijfjaaGreatDoor
set_option maxRecDepth 100000
open Go.RowKit

theorem sl_fresh {w : World} {b : Nat} {ws : List Nat} {ty : TypeId} (hb : w.heap[b]? = some (.cells (ws.map u32V).toArray ty (0, 0))) (h0 : ws.length ≤ 1000000) : Sl w 1 4 (some ⟨b, 0, none⟩) ws.length ws.length (ws.map u32V) where
  len := by simp
  room := Nat.le_refl _
  fits := by unfold maxLen; omega
  nil := fun h => by cases h
  wide := by omega
  row := fun _ => ⟨b, 0, rfl, fun j u hu => by rw [Nat.zero_add, Joins.cell_of_block hb]; simpa using hu⟩
set_option maxHeartbeats 1000000 in
theorem words_any (x : Nat) (w : World) (hx : x < 18446744073709551616) :
    Calls Tryz.prog 89 #[.int .u64 x] w fun e w' => (∃ v, e = .returned v ∧ AbsOf w' v x) ∧ Below w.heap.size w w' := by
  go_enter Tryz.func89, Tryz.ntmps89
  go_wp2_with fail
  have hw : valW [x % 4294967296, x / 4294967296] = x := by simp [valW]; omega
  have hsl : Sl (w.alloc (.cells #[.int .u32 (x % 4294967296), .int .u32 (x / 4294967296)] 175)) 1 4 (some ⟨w.heap.size, 0, none⟩) [x % 4294967296, x / 4294967296].length 2 ([x % 4294967296, x / 4294967296].map u32V) :=
    sl_fresh (ty := 175) (by rw [blk_last w _ rfl]; simp [u32V]) (by simp)
  refine (trim_any [x % 4294967296, x / 4294967296] _ _ _ (by simp) (by simp; omega) hsl (fun b o x hx => by cases hx; exact ⟨_, _, blk_last w _ rfl⟩)).mono ?_
  rw [hw]
  rintro e w' ⟨⟨v, rfl, hv⟩, rfl⟩
  clear hw hsl
  have HV := Lib.hid hv
  clear hv
  go_wp2_with fail
  go_ret
  exact ⟨⟨v, rfl, HV.out⟩, (Below.refl _ _).alloc (Nat.le_refl _) _⟩
/-- Block p is a whole number. -/
def BigBlk (w : World) (p : Nat) : Prop := ∃ f a n c, w.heap[p]? = some (.cells #[.bool f, .slice a n c] 134 (0, 0))
/-- Block p is the number n. -/
def BigAt (w : World) (p n : Nat) : Prop := ∃ v, w.heap[p]? = some (.cells #[.bool false, v] 134 (0, 0)) ∧ AbsOf w v n
theorem BigAt.blk {w : World} {p n : Nat} (h : BigAt w p n) : BigBlk w p := by
  obtain ⟨v, hb, a, c, rfl, _, _⟩ := h
  exact ⟨false, a, _, c, hb⟩
theorem BigBlk.lt {w : World} {p : Nat} (h : BigBlk w p) : p < w.heap.size := by obtain ⟨_, _, _, _, h⟩ := h; exact lt_of_block h
theorem BigAt.lt {w : World} {p n : Nat} (h : BigAt w p n) : p < w.heap.size := h.blk.lt
/-- The words of a number keep in a world in which blocks of words keep. -/
theorem AbsOf.keepT {w w' : World} {v : Value} {n : Nat} (h : AbsOf w v n) (hk : ∀ (b : Nat) (arr : Array Value) (fr : Nat × Nat), w.heap[b]? = some (.cells arr 175 fr) → w'.heap[b]? = w.heap[b]?) : AbsOf w' v n := by
  obtain ⟨a, c, e, hs, ht⟩ := h
  refine ⟨a, c, e, ⟨hs.len, hs.room, hs.fits, hs.nil, hs.wide, fun h0 => ?_⟩, fun b o x hx => ?_⟩
  · obtain ⟨b, o, ea, hr⟩ := hs.row h0
    obtain ⟨arr, fr, hb⟩ := ht b o none ea
    refine ⟨b, o, ea, fun j u hu => ?_⟩
    rw [World.cell?_of_block (hk b arr fr hb)]
    exact hr j u hu
  · obtain ⟨arr, fr, hb⟩ := ht b o x hx
    exact ⟨arr, fr, (hk b arr fr hb).trans hb⟩
theorem AbsOf.keep {w w' : World} {v : Value} {n p : Nat} (h : AbsOf w v n) (hp : BigBlk w p) (hk : Keeps (fun i => i = p) w w') : AbsOf w' v n :=
  h.keepT fun b arr fr hb => hk.block b (lt_of_block hb) (by
    rintro rfl
    obtain ⟨f, sa, sn, sc, h2⟩ := hp
    rw [hb] at h2
    simp at h2)
theorem BigAt.keep {w w' : World} {p q n : Nat} (h : BigAt w q n) (hp : BigBlk w p) (hne : q ≠ p) (hk : Keeps (fun i => i = p) w w') : BigAt w' q n := by
  have hl := h.lt
  obtain ⟨v, hb, ha⟩ := h
  exact ⟨v, (hk.block q hl hne).trans hb, ha.keep hp hk⟩
theorem BigAt.below {w w' : World} {p n : Nat} (h : BigAt w p n) (hb : Below w.heap.size w w') : BigAt w' p n := by
  obtain ⟨v, h1, h2⟩ := h
  exact ⟨v, (hb.block p (lt_of_block h1)).trans h1, h2.below hb⟩
set_option maxHeartbeats 1000000 in
theorem give_any (p n : Nat) (v : Value) (w : World) (hp : BigBlk w p) (hv : AbsOf w v n) :
    Calls Tryz.prog 88 #[.pointer (some ⟨p, 0, none⟩), .bool false, v] w fun e w' => e = .returned (.pointer (some ⟨p, 0, none⟩)) ∧ BigAt w' p n ∧ Keeps (fun i => i = p) w w' := by
  have HP := Lib.hid hp
  have HV := Lib.hid hv
  obtain ⟨f, sa, sn, sc, hb⟩ := hp
  obtain ⟨a, c, rfl, hs, _⟩ := hv
  obtain ⟨L, hL⟩ : ∃ L, L = (wordsN n).length := ⟨_, rfl⟩
  have HL := Lib.hid hL
  have hL2 : L ≤ 140737488351232 := by rw [hL]; have := hs.wide; omega
  rw [← hL] at HV ⊢
  have hlt := lt_of_block hb
  have f0 : w.frozen? ⟨p, 0, none⟩ = false := Joins.unfrozen_of_block hb 0
  have f1 : w.frozen? ⟨p, 1, none⟩ = false := Joins.unfrozen_of_block hb 1
  have c0 : w.cell? ⟨p, 0, none⟩ = some (.bool f) := Joins.cell_of_block hb 0
  have c1 : w.cell? ⟨p, 1, none⟩ = some (.slice sa sn sc) := Joins.cell_of_block hb 1
  have hb2 := Joins.block_setCell (Joins.block_setCell (i := 1) hb (.slice a L c)) (i := 0) (.bool false)
  have hk2 : Keeps (fun i => i = p) w ((w.setCell ⟨p, 1, none⟩ (.slice a L c)).setCell ⟨p, 0, none⟩ (.bool false)) := Keeps.setCell (Keeps.setCell (Keeps.refl (fun i => i = p) w) (p := ⟨p, 1, none⟩) (fun _ => rfl) _) (p := ⟨p, 0, none⟩) (fun _ => rfl) _
  have HB2 := Lib.hid hb2
  have HK2 := Lib.hid hk2
  clear hs hL hb hb2 hk2
  go_enter Tryz.func88, Tryz.ntmps88
  go_wp2_with fail
  go_ret
  refine ⟨rfl, ⟨.slice a L c, ?_, ?_⟩, HK2.out⟩
  · have := HB2.out
    simpa using this
  · exact HV.out.keep HP.out HK2.out
theorem BigBlk.below {w w' : World} {p : Nat} (h : BigBlk w p) (hb : Below w.heap.size w w') : BigBlk w' p := by
  have hl := h.lt
  obtain ⟨f, a, n, c, h⟩ := h
  exact ⟨f, a, n, c, (hb.block p hl).trans h⟩
set_option maxHeartbeats 1000000 in
theorem setInt64_any (p n : Nat) (w : World) (hp : BigBlk w p) (hn : n < 9223372036854775808) :
    Calls Tryz.prog 58 #[.pointer (some ⟨p, 0, none⟩), .int .i64 n] w fun e w' => e = .returned (.pointer (some ⟨p, 0, none⟩)) ∧ BigAt w' p n ∧ Keeps (fun i => i = p) w w' := by
  have HP := Lib.hid hp
  clear hp
  go_enter Tryz.func58, Tryz.ntmps58
  go_wp2_with fail
  refine (words_any n w (by omega)).mono ?_
  rintro e w1 ⟨⟨v, rfl, hv⟩, hb⟩
  have HG := Lib.hid (give_any p n v w1 (HP.out.below hb) hv)
  have HK := Lib.hid (Keeps.of_below (F := fun i => i = p) hb)
  clear hv hb
  go_wp2_with fail
  refine HG.out.mono ?_
  rintro e w2 ⟨rfl, h1, h2⟩
  have H1 := Lib.hid h1
  have H2 := Lib.hid (HK.out.trans h2 (fun _ _ h => h))
  clear h1 h2
  go_wp2_with fail
  go_ret
  exact ⟨rfl, H1.out, H2.out⟩
set_option maxHeartbeats 1000000 in
theorem newInt_any (n : Nat) (w : World) (hn : n < 9223372036854775808) :
    Calls Tryz.prog 40 #[.int .i64 n] w fun e w' => e = .returned (.pointer (some ⟨w.heap.size, 0, none⟩)) ∧ BigAt w' w.heap.size n ∧ Below w.heap.size w w' := by
  go_enter Tryz.func40, Tryz.ntmps40
  go_wp2_with fail
  have hb : (w.alloc (.cells #[.bool false, .slice none 0 0] 134)).heap[w.heap.size]? = some (.cells #[.bool false, .slice none 0 0] 134 (0, 0)) := blk_last w _ rfl
  refine (setInt64_any w.heap.size n _ ⟨false, none, 0, 0, hb⟩ hn).mono ?_
  rintro e w2 ⟨rfl, h1, h2⟩
  have H1 := Lib.hid h1
  have H2 := Lib.hid (((Below.refl w.heap.size w).alloc (Nat.le_refl _) (.cells #[.bool false, .slice none 0 0] 134)).trans (h2.toBelow (fun i h => by rw [h]; exact Nat.le_refl _) (by simp)))
  clear h1 h2 hb
  go_wp2_with fail
  go_ret
  exact ⟨rfl, H1.out, H2.out⟩
end Go.Proofs.YtabhpbkkjijfjaaGreatDoor
