/-
  A rule's text.
-/
import Derived.Test.YtdmamecfmfhlmaaGreatDoorZSpeechWrites27
import Derived.Test.YtdmamecfmfhlmaaGreatDoorZSpeechWrites10
namespace Go.Proofs.YtdmamecfmfhlmaaGreatDoor
set_option maxRecDepth 100000
open Go.RowKit

def dgc (k : Nat) : UInt8 := UInt8.ofNat (48 + k)
def digT (m : Int) : Nat → List UInt8
  | 0 => []
  | k + 1 => digT m k ++ (if m / 2 ^ k % 2 == 1 then [dgc k] else [])
theorem digT_le (m : Int) : ∀ k, (digT m k).length ≤ k
  | 0 => by simp [digT]
  | k + 1 => by
    have := digT_le m k
    rw [digT, List.length_append]
    split <;> simp <;> omega
def digF (m : Int) : List UInt8 := digT m 9

set_option maxRecDepth 100000 in
set_option maxHeartbeats 1000000 in
theorem digits_any (m : Int) (w : World) :
    Calls Tryz.prog 17 #[.int .i64 m] w fun e w' => e = .returned (.string (txt (digF m))) ∧ Below w.heap.size w w' := by
  obtain ⟨i0, hi, hz0, hz1, hz2⟩ := info_parts infoByte
  go_enter Tryz.func17, Tryz.ntmps17
  go_wp2_with fail
  go_loopw [3, 5] (fun v i wr => ∃ k : Nat, k ≤ 9 ∧ i = .int .i64 k ∧ wr.ownsRow w.heap.size 5 1 v (digT m k).length (encB (digT m k)) ∧ Below w.heap.size w wr) (fun _ i _ => 9 - (intOf i).toNat)
  case atStart => exact ⟨0, by omega, rfl, World.ownsRow_nil _ _ _ _, Below.refl _ _⟩
  case round =>
    obtain ⟨k, hk, rfl, hown, hB⟩ := hrel
    have hl := digT_le m k
    by_cases hlt : k < 9
    · have hlt' : (k : Int) < 9 := by omega
      have hz := hB.size
      by_cases hb : (m / 2 ^ k % 2 == 1) = true
      · have hb' : (bits .and .i64 (m / 2 ^ k) 1 == 1) = true := by rw [and_one_i64]; exact hb
        have Hb := Lib.hid hb
        clear hb
        have hn : encB [dgc k] = [.int .u8 (48 + k)] := by
          have : (dgc k).toNat = 48 + k := by simp [dgc]; omega
          simp only [encB, List.map_cons, List.map_nil, this]; simp
        have Hn := Lib.hid hn
        clear hn
        go_wp2_with ((at_builtin; refine wpList_append_lies _ rfl _ _ 42 rfl w.heap.size 5 i0 _ 1 1 Tryz.underlying42 hi hz0 hz1 hz2 rfl (by omega) u3 _ _ rfl (hown.alloc _) ⟨wr.heap.size, 0, none⟩ 1 1 [.int .u8 (48 + k)] rfl rfl (news_alloc _ _ _ rfl) (by simp [Value.oneCell']) (by omega) (by unfold maxLen; omega) (by omega) (by simp; omega) (wr.heap.size + 1) (by simp) ?_; intro g cap1 w1 hown1 hgrow1 hat1 hlt1))
        go_roundw
        case rel =>
          have e : digT m (k + 1) = digT m k ++ [dgc k] := by rw [digT, if_pos Hb.out]
          refine ⟨k + 1, by omega, by go_num, ?_, (hB.alloc (by omega) _).grown hgrow1 (by simp; omega) (fun j hj => (hown.lt j hj).1)⟩
          rw [e, encB_append, Hn.out, List.length_append]
          exact hown1
        case measure => simp [intOf]; omega
      · have hb' : (bits .and .i64 (m / 2 ^ k) 1 == 1) = false := by rw [and_one_i64]; simpa using hb
        have Hb := Lib.hid hb
        clear hb
        go_wp2_with fail
        go_roundw
        case rel =>
          have e : digT m (k + 1) = digT m k := by rw [digT, if_neg Hb.out, List.append_nil]
          exact ⟨k + 1, by omega, by go_num, by rw [e]; exact hown, hB⟩
        case measure => simp [intOf]; omega
    · obtain rfl : k = 9 := by omega
      have hcv := conv_own hown
      obtain ⟨va, vc, rfl⟩ := own_form hown
      go_wp2_with fail
      go_ret
      exact ⟨rfl, hB⟩

theorem digF_le (m : Int) : (digF m).length ≤ 9 := digT_le m 9
/-- A rule's text. -/
def textF (b l : Int) : List UInt8 := [66] ++ digF b ++ [47, 83] ++ digF l
set_option maxRecDepth 100000 in
set_option maxHeartbeats 1000000 in
theorem text_yes (b l : Int) (w : World) (h : goodF b l = true) :
    Calls Tryz.prog 7 #[.agg #[.int .i64 b, .int .i64 l]] w fun e w' => e = .returned (.tuple #[.string (txt (textF b l)), .int .i64 0]) ∧ Below w.heap.size w w' := by
  have hr : 0 ≤ b ∧ b < 512 ∧ 0 ≤ l ∧ l < 512 := by simp [goodF] at h; omega
  obtain ⟨h0, h1, h2, h3⟩ := hr
  have hg := fun w => good_any b l w
  rw [h] at hg
  have HG := Lib.hid hg
  clear hg h
  have db := digF_le b
  have dl := digF_le l
  have s1 : (txt (digF b)).size ≤ 9 := by rw [txt_size]; exact db
  have s2 : (txt (digF l)).size ≤ 9 := by rw [txt_size]; exact dl
  have s3 : (txt [66] ++ txt (digF b)).size ≤ 10 := by rw [txt_add, txt_size]; simp; omega
  have s4 : (txt [66] ++ txt (digF b) ++ txt [47, 83]).size ≤ 12 := by rw [txt_add, txt_add, txt_size]; simp; omega
  go_enter Tryz.func7, Tryz.ntmps7
  go_wp2_with fail
  refine (HG.out _).mono ?_
  rintro e w1 ⟨rfl, b1⟩
  have c0 : ∀ x : Grow w1, x.val.cell? ⟨w.heap.size, 0, none⟩ = some (.int .i64 b) := Grow.cells (by rw [b1.cell (by simp)]; simp)
  have c1 : ∀ x : Grow w1, x.val.cell? ⟨w.heap.size, 1, none⟩ = some (.int .i64 l) := Grow.cells (by rw [b1.cell (by simp)]; simp)
  go_wp2_with fail
  refine wp_region_grow (by kernel_rfl) (by kernel_rfl) ?_
  repeat (go_big_quiet_step ((go_at_call 17; first | (with_reducible exact grow_of (digits_any b _)) | (with_reducible exact grow_of (digits_any l _)))))
  refine wpQuiet_nil ?_
  intro _ hw'
  obtain ⟨x, hx⟩ := hw'
  subst hx
  go_wp2_with fail
  go_ret2
  refine ⟨?_, (((Below.refl _ _).alloc (Nat.le_refl _) _).trans (b1.mono (by simp))).trans (x.below.mono (by have := b1.size; simp at this; omega))⟩
  rw [textF, ← txt_add, ← txt_add, ← txt_add]
  rfl
set_option maxRecDepth 100000 in
set_option maxHeartbeats 1000000 in
theorem text_no (b l : Int) (w : World) (h : goodF b l = false) :
    Calls Tryz.prog 7 #[.agg #[.int .i64 b, .int .i64 l]] w fun e w' => e = .returned (.tuple #[.string ⟨#[]⟩, .int .i64 3]) ∧ Below w.heap.size w w' := by
  have hg := fun w => good_any b l w
  rw [h] at hg
  have HG := Lib.hid hg
  clear hg h
  go_enter Tryz.func7, Tryz.ntmps7
  go_wp2_with fail
  refine (HG.out _).mono ?_
  rintro e w1 ⟨rfl, b1⟩
  go_wp2_with fail
  go_ret2
  exact ⟨rfl, ((Below.refl _ _).alloc (Nat.le_refl _) _).trans (b1.mono (by simp))⟩
def outT (b l : Int) : Nat → List UInt8
  | 0 => [66]
  | 1 => [66] ++ digF b
  | _ => textF b l
/-- What the text begins with in round k. -/
def outB (b : Int) : Nat → List UInt8
  | 0 => [66]
  | _ => [66] ++ digF b ++ [47, 83]
def mask2 (b l : Int) : Nat → Int
  | 0 => b
  | _ => l
def acc (b m : Int) (k j : Nat) : List UInt8 := outB b k ++ digT m j
theorem acc_add {b m : Int} {k j : Nat} (h : (m / 2 ^ j % 2 == 1) = true) : txt (acc b m k j) ++ txt [dgc j] = txt (acc b m k (j + 1)) := by
  rw [txt_add, acc, acc, digT, if_pos h, List.append_assoc]
theorem acc_same {b m : Int} {k j : Nat} (h : ¬ (m / 2 ^ j % 2 == 1) = true) : acc b m k (j + 1) = acc b m k j := by
  rw [acc, acc, digT, if_neg h, List.append_nil]
theorem nine (w : World) (g : Nat) (h : ∃ fr, w.heap[g]? = some (.cells #[.string ⟨#[48]⟩, .string ⟨#[49]⟩, .string ⟨#[50]⟩, .string ⟨#[51]⟩, .string ⟨#[52]⟩, .string ⟨#[53]⟩, .string ⟨#[54]⟩, .string ⟨#[55]⟩, .string ⟨#[56]⟩] 9 fr)) (j : Nat) (hj : j < 9) :
    w.cell? ⟨g, j, none⟩ = some (.string (txt [dgc j])) := by
  obtain ⟨fr, h⟩ := h
  rw [Joins.cell_of_block h]
  match j, hj with
  | 0, _ => rfl
  | 1, _ => rfl
  | 2, _ => rfl
  | 3, _ => rfl
  | 4, _ => rfl
  | 5, _ => rfl
  | 6, _ => rfl
  | 7, _ => rfl
  | 8, _ => rfl
set_option maxRecDepth 100000 in
set_option maxHeartbeats 4000000 in
theorem refText_yes (b l : Int) (w : World) (h : goodF b l = true) :
    Calls Tryz.prog 12 #[.agg #[.int .i64 b, .int .i64 l]] w fun e w' => e = .returned (.tuple #[.string (txt (textF b l)), .int .i64 0]) ∧ Below w.heap.size w w' := by
  have hr : 0 ≤ b ∧ b < 512 ∧ 0 ≤ l ∧ l < 512 := by simp [goodF] at h; omega
  obtain ⟨h0, h1, h2, h3⟩ := hr
  have hg := fun w => refGood_any b l w
  rw [h] at hg
  have HG := Lib.hid hg
  clear hg h
  go_enter Tryz.func12, Tryz.ntmps12
  go_wp2_with fail
  refine (HG.out _).mono ?_
  rintro e w1 ⟨rfl, b1⟩
  have c0 : w1.cell? ⟨w.heap.size, 0, none⟩ = some (.int .i64 b) := by rw [b1.cell (by simp)]; simp
  have c1 : w1.cell? ⟨w.heap.size, 1, none⟩ = some (.int .i64 l) := by rw [b1.cell (by simp)]; simp
  have bw : Below w.heap.size w w1 := ((Below.refl _ _).alloc (Nat.le_refl _) _).trans (b1.mono (by simp))
  have z1 := bw.size
  go_wp2_with fail
  go_loopw [4, 18] (fun s i wr => ∃ k : Nat, k ≤ 2 ∧ i = .int .i64 k ∧ s = .string (txt (outT b l k)) ∧ Below w1.heap.size w1 wr ∧ wr.heap[w1.heap.size]? = some (.cells #[.int .i64 b, .int .i64 l] 3 (0, 0))) (fun _ i _ => 2 - (intOf i).toNat)
  case atStart => exact ⟨0, by omega, rfl, rfl, (Below.refl _ _).alloc (Nat.le_refl _) _, blk_last w1 _ rfl⟩
  case round =>
    obtain ⟨k, hk, rfl, rfl, hB, hblk⟩ := hrel
    by_cases hlt : k < 2
    · rcases (show k = 0 ∨ k = 1 by omega) with rfl | rfl
      · have q0 : wr.cell? ⟨w1.heap.size, 0, none⟩ = some (.int .i64 b) := Joins.cell_of_block hblk 0
        have sz1 : (txt (outT b l 0)).size ≤ 10 := by rw [txt_size]; simp [outT]
        have hz := hB.size
        go_wp2_with fail
        obtain ⟨W, hW⟩ : ∃ W, W = wr.alloc (.cells #[.string ⟨#[48]⟩, .string ⟨#[49]⟩, .string ⟨#[50]⟩, .string ⟨#[51]⟩, .string ⟨#[52]⟩, .string ⟨#[53]⟩, .string ⟨#[54]⟩, .string ⟨#[55]⟩, .string ⟨#[56]⟩] 9) := ⟨_, rfl⟩
        rw [← hW]
        have hnine := fun j hj => nine W wr.heap.size ⟨_, by subst hW; exact blk_last wr _ rfl⟩ j hj
        have hBW : Below w1.heap.size w1 W := by subst hW; exact hB.alloc hz _
        have hblkW : W.heap[w1.heap.size]? = some (.cells #[.int .i64 b, .int .i64 l] 3 (0, 0)) := by subst hW; exact blk_alloc hblk _
        have HN := Lib.hid hnine
        clear hnine hW
        go_loop [4, 6, 29] (fun s m i => ∃ j : Nat, j ≤ 9 ∧ i = .int .i64 j ∧ m = .int .i64 (b / 2 ^ j) ∧ s = .string (txt (acc b b 0 j))) (fun _ _ i => 9 - (intOf i).toNat)
        case atStart => exact ⟨0, by omega, rfl, by simp, rfl⟩
        case round =>
          obtain ⟨j, hj, rfl, rfl, rfl⟩ := hrel
          have dj := digT_le b j
          have db := digF_le b
          by_cases hlj : j < 9
          · have e0 := HN.out j hlj
            have sz2 : (txt (acc b b 0 j)).size ≤ 21 := by rw [txt_size]; simp [acc, outB]; omega
            have sz3 : (txt [dgc j]).size ≤ 1 := by rw [txt_size]; simp
            obtain ⟨q, hq⟩ : ∃ q, q = b / 2 ^ j := ⟨_, rfl⟩
            have hq0 : 0 ≤ q := by subst hq; exact Int.ediv_nonneg (by omega) (by exact_mod_cast Nat.zero_le _)
            have hq1 : q ≤ 512 := by subst hq; exact Int.le_trans (Int.ediv_le_self _ (by omega)) (by omega)
            have hs2 : q / 2 = b / 2 ^ (j + 1) := by subst hq; rw [Int.ediv_ediv_of_nonneg (by exact_mod_cast Nat.zero_le _), ← Int.pow_succ]
            rw [← hq]
            have HQ := Lib.hid hq
            have HS := Lib.hid hs2
            clear hq hs2
            by_cases hb : (q % 2 == 1) = true
            · have ha := acc_add (b := b) (m := b) (k := 0) (j := j) (by rw [← HQ.out]; exact hb)
              have HA := Lib.hid ha
              clear ha
              go_wp2_with fail
              go_round
              case rel => exact ⟨j + 1, by omega, by go_num, by rw [HS.out], by rw [HA.out]⟩
              case measure => simp [intOf]; omega
            · have ha := acc_same (b := b) (m := b) (k := 0) (j := j) (by rw [← HQ.out]; exact hb)
              have HA := Lib.hid ha
              have hb' : (q % 2 == 1) = false := by simpa using hb
              clear hb ha
              go_wp2_with fail
              go_round
              case rel => exact ⟨j + 1, by omega, by go_num, by rw [HS.out], by rw [HA.out]⟩
              case measure => simp [intOf]; omega
          · obtain rfl : j = 9 := by omega
            go_wp2_with fail
            go_roundw
            case rel => exact ⟨1, by omega, by go_num, rfl, hBW, hblkW⟩
            case measure => simp [intOf]
      · have q0 : wr.cell? ⟨w1.heap.size, 1, none⟩ = some (.int .i64 l) := Joins.cell_of_block hblk 1
        have sz1 : (txt (outT b l 1)).size ≤ 10 := by rw [txt_size]; have := digF_le b; simp [outT]; omega
        have hz := hB.size
        go_wp2_with fail
        obtain ⟨W, hW⟩ : ∃ W, W = wr.alloc (.cells #[.string ⟨#[48]⟩, .string ⟨#[49]⟩, .string ⟨#[50]⟩, .string ⟨#[51]⟩, .string ⟨#[52]⟩, .string ⟨#[53]⟩, .string ⟨#[54]⟩, .string ⟨#[55]⟩, .string ⟨#[56]⟩] 9) := ⟨_, rfl⟩
        rw [← hW]
        have hnine := fun j hj => nine W wr.heap.size ⟨_, by subst hW; exact blk_last wr _ rfl⟩ j hj
        have hBW : Below w1.heap.size w1 W := by subst hW; exact hB.alloc hz _
        have hblkW : W.heap[w1.heap.size]? = some (.cells #[.int .i64 b, .int .i64 l] 3 (0, 0)) := by subst hW; exact blk_alloc hblk _
        have HN := Lib.hid hnine
        clear hnine hW
        go_loop [4, 6, 29] (fun s m i => ∃ j : Nat, j ≤ 9 ∧ i = .int .i64 j ∧ m = .int .i64 (l / 2 ^ j) ∧ s = .string (txt (acc b l 1 j))) (fun _ _ i => 9 - (intOf i).toNat)
        case atStart => exact ⟨0, by omega, rfl, by simp, congrArg Value.string (by show txt ([66] ++ digF b) ++ txt [47, 83] = txt (([66] ++ digF b ++ [47, 83]) ++ []); rw [txt_add, List.append_nil])⟩
        case round =>
          obtain ⟨j, hj, rfl, rfl, rfl⟩ := hrel
          have dj := digT_le l j
          have db := digF_le b
          by_cases hlj : j < 9
          · have e0 := HN.out j hlj
            have sz2 : (txt (acc b l 1 j)).size ≤ 21 := by rw [txt_size]; simp [acc, outB]; omega
            have sz3 : (txt [dgc j]).size ≤ 1 := by rw [txt_size]; simp
            obtain ⟨q, hq⟩ : ∃ q, q = l / 2 ^ j := ⟨_, rfl⟩
            have hq0 : 0 ≤ q := by subst hq; exact Int.ediv_nonneg (by omega) (by exact_mod_cast Nat.zero_le _)
            have hq1 : q ≤ 512 := by subst hq; exact Int.le_trans (Int.ediv_le_self _ (by omega)) (by omega)
            have hs2 : q / 2 = l / 2 ^ (j + 1) := by subst hq; rw [Int.ediv_ediv_of_nonneg (by exact_mod_cast Nat.zero_le _), ← Int.pow_succ]
            rw [← hq]
            have HQ := Lib.hid hq
            have HS := Lib.hid hs2
            clear hq hs2
            by_cases hb : (q % 2 == 1) = true
            · have ha := acc_add (b := b) (m := l) (k := 1) (j := j) (by rw [← HQ.out]; exact hb)
              have HA := Lib.hid ha
              clear ha
              go_wp2_with fail
              go_round
              case rel => exact ⟨j + 1, by omega, by go_num, by rw [HS.out], by rw [HA.out]⟩
              case measure => simp [intOf]; omega
            · have ha := acc_same (b := b) (m := l) (k := 1) (j := j) (by rw [← HQ.out]; exact hb)
              have HA := Lib.hid ha
              have hb' : (q % 2 == 1) = false := by simpa using hb
              clear hb ha
              go_wp2_with fail
              go_round
              case rel => exact ⟨j + 1, by omega, by go_num, by rw [HS.out], by rw [HA.out]⟩
              case measure => simp [intOf]; omega
          · obtain rfl : j = 9 := by omega
            go_wp2_with fail
            go_roundw
            case rel => exact ⟨2, by omega, by go_num, rfl, hBW, hblkW⟩
            case measure => simp [intOf]
    · obtain rfl : k = 2 := by omega
      go_wp2_with fail
      go_ret2
      exact ⟨rfl, bw.trans (hB.mono z1)⟩
set_option maxRecDepth 100000 in
set_option maxHeartbeats 1000000 in
theorem refText_no (b l : Int) (w : World) (h : goodF b l = false) :
    Calls Tryz.prog 12 #[.agg #[.int .i64 b, .int .i64 l]] w fun e w' => e = .returned (.tuple #[.string ⟨#[]⟩, .int .i64 3]) ∧ Below w.heap.size w w' := by
  have hg := fun w => refGood_any b l w
  rw [h] at hg
  have HG := Lib.hid hg
  clear hg h
  go_enter Tryz.func12, Tryz.ntmps12
  go_wp2_with fail
  refine (HG.out _).mono ?_
  rintro e w1 ⟨rfl, b1⟩
  go_wp2_with fail
  go_ret2
  exact ⟨rfl, ((Below.refl _ _).alloc (Nat.le_refl _) _).trans (b1.mono (by simp))⟩
end Go.Proofs.YtdmamecfmfhlmaaGreatDoor
