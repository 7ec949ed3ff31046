/-
  house's Tick and Log.
-/
import Derived.Test.YtabhpbkkjijfjaaGreatDoorZHouseLogs35
import Derived.Test.YtabhpbkkjijfjaaGreatDoorZHouseLogs6
namespace Go.Proofs.YtabhpbkkjijfjaaGreatDoor
set_option maxRecDepth 100000
open Go.RowKit

/-- The texts of how many lines of the first k tenants wait. -/
def waitL (st : TurnSt) : Nat → List UInt8
  | 0 => []
  | k + 1 => waitL st k ++ (32 :: Lib.decDigits (turnWaits st (k : Int)).toNat)
/-- Behind some rounds of Tick. -/
structure TkSt (b ab tb : Nat) (pbs hbs : List Nat) (H : HouseS) (pv : Value) (w : World) (Fh Ft : Nat → Prop) (Fp : Nat → Nat → Prop) (L : List UInt8) (c : Int) (W : World) : Prop where
  ex : ∃ l0 lv Fh', HouseAt b ab tb pbs hbs ⟨H.ports, H.turns, L, c⟩ pv l0 lv W Fh' Ft Fp ∧ ∀ j, Fh' j → Fh j ∨ w.heap.size ≤ j
  keep : Keeps Fh w W
theorem decD_len {n : Nat} (h : n < 9223372036854775808) : (Lib.decDigits n).length ≤ 64 := by
  rw [← numT_dec]; exact numT_len (by omega) (by omega)
theorem waits_lt {b : Nat} {st : TurnSt} {w : World} {F : Nat → Prop} (h : IsTurns b st w F) (t : Int) : turnWaits st t = ((turnWaits st t).toNat : Int) ∧ (turnWaits st t).toNat < 9223372036854775808 := by
  unfold turnWaits
  split
  · exact ⟨rfl, by decide⟩
  · next hn =>
    obtain ⟨W, vs, h⟩ := h
    have hk : t.toNat < vs.length := by rw [h.len]; omega
    obtain ⟨a, c, _, h1, h2, _⟩ := (h.rows t.toNat _ (List.getElem?_eq_getElem hk)).form
    unfold maxLen at h2
    rw [Int.toNat_natCast]
    exact ⟨rfl, by omega⟩
theorem waitL_len {b : Nat} {st : TurnSt} {w : World} {F : Nat → Prop} (h : IsTurns b st w F) : ∀ k, (waitL st k).length ≤ 65 * k
  | 0 => Nat.le_refl _
  | k + 1 => by
    have ih := waitL_len h k
    have := decD_len (waits_lt h (k : Int)).2
    rw [waitL, List.length_append, List.length_cons]; omega
set_option maxHeartbeats 4000000 in
set_option maxRecDepth 100000 in
theorem tick_any {b ab tb B : Nat} {pbs hbs : List Nat} {H : HouseS} {pv l0 lv : Value} {w : World} {Fh Ft : Nat → Prop} {Fp : Nat → Nat → Prop} (h : HouseAt b ab tb pbs hbs H pv l0 lv w Fh Ft Fp) {k : Nat} (hk : H.clock = (k : Int)) (hk6 : k ≤ 1000000) (hl : H.log.length ≤ 1000000000) (hT : Tab B w) (hB : ∀ j, Fh j → B ≤ j) (hBw : B ≤ w.heap.size) :
    Calls Tryz.prog 11 #[ptrV b] w fun e w' => e = .returned (.tuple #[]) ∧ TkSt b ab tb pbs hbs H pv w Fh Ft Fp (H.log ++ (Lib.decDigits (k + 1) ++ (waitL H.turns H.ports.length ++ [10]))) (H.clock + 1) w' := by
  have k5 : w.cell? ⟨b, 5, none⟩ = some (.int .i64 (k : Int)) := by rw [← hk]; exact Joins.cell_of_block h.log.blk 5
  have f5 : w.frozen? ⟨b, 5, none⟩ = false := Joins.unfrozen_of_block h.log.blk 5
  have h1 := h.clocked (c := ((k + 1 : Nat) : Int)) (by unfold I64; omega)
  obtain ⟨k1, hk1⟩ : ∃ k1, k1 = k + 1 := ⟨_, rfl⟩
  rw [← hk1] at h1 ⊢
  have hsk : (k : Int) + 1 = (k1 : Int) := by omega
  have hw1 : IntKind.i64.wrap (k1 : Int) = (k1 : Int) := by rw [IntKind.wrap_i64]; omega
  have HK1 := Lib.hid (show k1 = k + 1 ∧ H.clock = (k : Int) from ⟨hk1, hk⟩)
  have hk1b : k1 ≤ 1000001 := by omega
  clear hk1 hk hk6
  have HH := Lib.hid h
  have HH1 := Lib.hid h1
  have HT := Lib.hid hT
  have HBB := Lib.hid (And.intro hB hBw)
  unfold ptrV
  clear h h1 hT hB hBw
  go_enter Tryz.func11, Tryz.ntmps11
  go_upto_region 2 with fail
  obtain ⟨W1, hW1⟩ : ∃ W, W = w.setCell ⟨b, 5, none⟩ (.int .i64 (k1 : Int)) := ⟨_, rfl⟩
  have HW1 := Lib.hid hW1
  have h1 := HH1.out
  rw [← hW1] at h1 ⊢
  have K1 : Keeps Fh w W1 := by
    rw [hW1]
    exact (Keeps.refl Fh w).setCell (p := ⟨b, 5, none⟩) (fun _ => HH.out.fb) _
  have hb1 : Below B w W1 := K1.toBelow HBB.out.1 HBB.out.2
  have c5 : W1.cell? ⟨b, 5, none⟩ = some (.int .i64 (k1 : Int)) := Joins.cell_of_block h1.log.blk 5
  obtain ⟨D, hD⟩ : ∃ D, D = Lib.decDigits k1 := ⟨_, rfl⟩
  have hIT := itoa_any B k1 W1.drew (by omega) (HT.out.on hb1.drew)
  rw [← hD] at hIT
  have hDl : D.length ≤ 64 := by rw [hD]; exact decD_len (by omega)
  have HIT := Lib.hid hIT
  have HK1' := Lib.hid K1
  have HA1 := Lib.hid (show ∀ W, Below W1.drew.heap.size W1.drew W → HouseAt b ab tb pbs hbs ⟨H.ports, H.turns, H.log, (k1 : Int)⟩ pv l0 lv W Fh Ft Fp from fun W hW => (h1.keep ((Keeps.refl (fun _ => False) W1).drew) (fun _ _ e => e) (fun _ _ e => e) (fun _ _ _ e => e)).keep (Keeps.of_below (F := fun _ => False) hW) (fun _ _ e => e) (fun _ _ e => e) (fun _ _ _ e => e))
  have HS0 := Lib.hid (show W1.drew.cell? ⟨b, 5, none⟩ = some (.int .i64 (k1 : Int)) from c5)
  have HD := Lib.hid hD
  clear h1 K1 hb1 hIT hD hW1
  go_region_held3 (fun w' => w'.cell? ⟨b, 5, none⟩ = some (.int .i64 (k1 : Int))) (first | exact HS2.out | exact HS1.out | exact HS0.out) (first | (go_at_call 26; (with_reducible refine HIT.out.mono ?_); rintro e w2 ⟨rfl, hb2⟩; have HB2 := Lib.hid hb2; have HS1 := Lib.hid (show w2.cell? ⟨b, 5, none⟩ = some (.int .i64 (k1 : Int)) from Joins.cell_of_block (HA1.out w2 hb2).log.blk 5)) | (go_at_call 23; (with_reducible refine ((HA1.out w2 HB2.out).write D (by show H.log.length + D.length ≤ _; omega)).mono ?_); rintro e w3 ⟨rfl, v3, Fh3, h3, hf3, hk3⟩; have HH3 := Lib.hid h3; have HF3 := Lib.hid hf3; have HK3 := Lib.hid hk3; have HS2 := Lib.hid (show w3.cell? ⟨b, 5, none⟩ = some (.int .i64 (k1 : Int)) from Joins.cell_of_block h3.log.blk 5)))
  have h3 := HH3.out
  have hs3 : TkSt b ab tb pbs hbs H pv w Fh Ft Fp (H.log ++ (D ++ waitL H.turns 0)) (k1 : Int) w3 := by
    have hz1 : w.heap.size ≤ W1.heap.size := HK1'.out.size
    have hz2 : W1.heap.size ≤ w2.heap.size := HB2.out.size
    refine ⟨⟨_, v3, Fh3, by rw [waitL, List.append_nil]; exact h3, fun j hj => ?_⟩, ((HK1'.out.drew).below HB2.out).trans HK3.out fun _ _ e => e⟩
    rcases HF3.out j hj with e | e
    · exact .inl e
    · exact .inr (by omega)
  have HS3 : Aside (TkSt b ab tb pbs hbs H pv w Fh Ft Fp (H.log ++ (D ++ waitL H.turns 0)) (k1 : Int) w3) := hs3
  obtain ⟨pa, pc, hpv, _, _, _⟩ := h3.prow.form
  have hnp := h3.np
  obtain ⟨n, hn⟩ : ∃ n, n = H.ports.length := ⟨_, rfl⟩
  have hnp' : pbs.length = n := by rw [hn]; exact hnp
  rw [hnp'] at hpv
  subst hpv
  have c1 : w3.cell? ⟨b, 1, none⟩ = some (.slice pa n pc) := Joins.cell_of_block h3.log.blk 1
  have hn64 : n ≤ 64 := by
    obtain ⟨_, _, hq⟩ := h3.turns
    have h1 : H.turns.n ≤ 64 := hq.small
    have h2 : H.turns.n = H.ports.length := h3.nt
    omega
  have HN := Lib.hid hn
  clear h3 hs3 hnp hn hnp'
  go_upto_region 4 with fail
  clear c1
  go_loopw [2, 26] (fun _ iv ws => ∃ j : Nat, iv = .int .i64 j ∧ j ≤ n ∧ Aside (TkSt b ab tb pbs hbs H (.slice pa n pc) w Fh Ft Fp (H.log ++ (D ++ waitL H.turns j)) (k1 : Int) ws)) (fun _ iv _ => n - (intOf iv).toNat)
  case atStart => exact ⟨0, rfl, Nat.zero_le _, HS3⟩
  case round =>
    obtain ⟨j, rfl, hj, hq⟩ := hrel
    have HQ := Lib.hid hq.out
    clear hq
    by_cases hlt : j < n
    · obtain ⟨l0', lv', Fh', hA, hfar⟩ := HQ.out.ex
      have hwl := waitL_len HH.out.turns j
      obtain ⟨L, hL⟩ : ∃ L, L = H.log ++ (D ++ waitL H.turns j) := ⟨_, rfl⟩
      have hLl : L.length ≤ 2000000000 := by rw [hL, List.length_append, List.length_append]; omega
      rw [← hL] at hA
      obtain ⟨x, hx⟩ : ∃ x, x = (turnWaits H.turns (j : Int)).toNat := ⟨_, rfl⟩
      have hx0 : turnWaits H.turns (j : Int) = (x : Int) := by rw [hx]; exact (waits_lt HH.out.turns _).1
      have hx1 : x < 9223372036854775808 := by rw [hx]; exact (waits_lt HH.out.turns _).2
      have hAd := hA.keep ((Keeps.refl (fun _ => False) wr).drew) (fun _ _ e => e) (fun _ _ e => e) (fun _ _ _ e => e)
      have hWT := waits_any tb H.turns Ft (j : Int) wr.drew hAd.turns
      rw [hx0] at hWT
      have hbr : Below B w wr.drew := (HQ.out.keep.drew).toBelow HBB.out.1 HBB.out.2
      have hIT := itoa_any B x wr.drew (by omega) (HT.out.on hbr)
      obtain ⟨E, hE⟩ : ∃ E, E = Lib.decDigits x := ⟨_, rfl⟩
      have hEl : E.length ≤ 64 := by rw [hE]; exact decD_len (by omega)
      rw [← hE] at hIT
      obtain ⟨T1, hT1⟩ : ∃ T1, T1 = txt E := ⟨_, rfl⟩
      obtain ⟨T2, hT2⟩ : ∃ T2, T2 = txt (32 :: E) := ⟨_, rfl⟩
      have hadd : ∀ W, (Op.stringOp .add ({ data := #[32] } : ByteArray) T1).run Tryz.prog W = .ok (.string T2) W := fun W => by
        have e0 : ({ data := #[32] } : ByteArray) = txt [32] := rfl
        rw [e0, hT1, hT2, run_string_add_sum (P := Tryz.prog) W _ _ (by rw [txt_size, txt_size]; simp; omega), txt_add]; rfl
      have hsz1 : ¬ (9223372036854775807 < 1 + T1.size) := by rw [hT1, txt_size]; omega
      rw [← hT1] at hIT
      have HWT := Lib.hid hWT
      have HIT := Lib.hid hIT
      have HAD := Lib.hid (show ∀ W, Below wr.drew.heap.size wr.drew W → HouseAt b ab tb pbs hbs ⟨H.ports, H.turns, L, (k1 : Int)⟩ (.slice pa n pc) l0' lv' W Fh' Ft Fp from fun W hW => hAd.keep (Keeps.of_below (F := fun _ => False) hW) (fun _ _ e => e) (fun _ _ e => e) (fun _ _ _ e => e))
      have HS0 := Lib.hid (show wr.drew.cell? ⟨b, 2, none⟩ = some (.pointer (some ⟨tb, 0, none⟩)) from Joins.cell_of_block hAd.log.blk 2)
      have HFR := Lib.hid hfar
      have HL := Lib.hid hL
      have HX := Lib.hid hx
      have HE := Lib.hid hE
      have HT2 := Lib.hid hT2
      have t1 : decide ((j : Int) < (n : Int)) = true := decide_eq_true (by omega)
      clear hA hfar hwl hL hx hx0 hAd hWT hbr hIT hE hT1 hT2
      go_upto_region 6 with fail
      clear t1
      go_region_held3 (fun w' => w'.cell? ⟨b, 2, none⟩ = some (.pointer (some ⟨tb, 0, none⟩))) (first | exact HS2.out | exact HS1.out | exact HS0.out) (first | (go_at_call 27; (with_reducible refine HWT.out.mono ?_); rintro e wy ⟨rfl, rfl⟩) | (go_at_call 26; (with_reducible refine HIT.out.mono ?_); rintro e w4 ⟨rfl, hb4⟩; have HB4 := Lib.hid hb4; have HS1 := Lib.hid (show w4.cell? ⟨b, 2, none⟩ = some (.pointer (some ⟨tb, 0, none⟩)) from Joins.cell_of_block (HAD.out w4 hb4).log.blk 2)) | (go_at_call 23; (with_reducible refine ((by rw [HT2.out]; exact (HAD.out w4 HB4.out).write (32 :: E) (by show L.length + (32 :: E).length ≤ _; rw [List.length_cons]; omega) : Calls Tryz.prog 23 #[.pointer (some ⟨b, 3, none⟩), .string T2] w4 fun e w' => e = .returned (.tuple #[.int .i64 (txt (32 :: E)).size, .nilIface]) ∧ ∃ v' Fh2, HouseAt b ab tb pbs hbs ⟨H.ports, H.turns, L ++ (32 :: E), (k1 : Int)⟩ (.slice pa n pc) (.pointer (some ⟨b, 3, none⟩)) v' w' Fh2 Ft Fp ∧ (∀ i, Fh2 i → Fh' i ∨ w4.heap.size ≤ i) ∧ Keeps Fh' w4 w')).mono ?_); rintro e w5 ⟨rfl, v5, Fh5, h5, hf5, hk5⟩; have HH5 := Lib.hid h5; have HF5 := Lib.hid hf5; have HK5 := Lib.hid hk5; have HS2 := Lib.hid (show w5.cell? ⟨b, 2, none⟩ = some (.pointer (some ⟨tb, 0, none⟩)) from Joins.cell_of_block h5.log.blk 2)))
      have hN : TkSt b ab tb pbs hbs H (.slice pa n pc) w Fh Ft Fp (H.log ++ (D ++ waitL H.turns (j + 1))) (k1 : Int) w5 := by
        have hzr := HQ.out.keep.size
        have hz4 : wr.heap.size ≤ w4.heap.size := HB4.out.size
        have e : L ++ (32 :: E) = H.log ++ (D ++ waitL H.turns (j + 1)) := by
          rw [HL.out, HE.out, HX.out, waitL]; simp [List.append_assoc]
        refine ⟨⟨_, v5, Fh5, by rw [← e]; exact HH5.out, fun i hi => ?_⟩, ((HQ.out.keep.drew).below HB4.out).trans HK5.out fun i hi e => ?_⟩
        · rcases HF5.out i hi with e1 | e1
          · exact HFR.out i e1
          · exact .inr (by omega)
        · rcases HFR.out i e with e1 | e1
          · exact e1
          · omega
      have HN5 : Aside (TkSt b ab tb pbs hbs H (.slice pa n pc) w Fh Ft Fp (H.log ++ (D ++ waitL H.turns (j + 1))) (k1 : Int) w5) := hN
      clear hN
      go_wp2_with fail
      exact ⟨⟨j + 1, by go_num, by omega, HN5⟩, by simp [intOf]; omega⟩
    · have hjn : j = n := by omega
      have t1 : decide ((j : Int) < (n : Int)) = false := decide_eq_false (by omega)
      obtain ⟨l0', lv', Fh', hA, hfar⟩ := HQ.out.ex
      have hwl := waitL_len HH.out.turns j
      obtain ⟨L, hL⟩ : ∃ L, L = H.log ++ (D ++ waitL H.turns j) := ⟨_, rfl⟩
      have hLl : L.length ≤ 2000000000 := by rw [hL, List.length_append, List.length_append]; omega
      rw [← hL] at hA
      have hWR := hA.write [10] (by show L.length + 1 ≤ _; omega)
      have e10 : txt [10] = ({ data := #[10] } : ByteArray) := rfl
      rw [e10] at hWR
      have HWR := Lib.hid hWR
      have HFR := Lib.hid hfar
      have HL := Lib.hid hL
      have HJN := Lib.hid hjn
      clear hA hfar hwl hL hWR e10 hjn
      go_wp2_with fail
      with_reducible refine HWR.out.mono ?_
      rintro e w5 ⟨rfl, v5, Fh5, h5, hf5, hk5⟩
      have HE : Aside (TkSt b ab tb pbs hbs H (.slice pa n pc) w Fh Ft Fp (H.log ++ (Lib.decDigits k1 ++ (waitL H.turns H.ports.length ++ [10]))) (H.clock + 1) w5) := by
        have hzr := HQ.out.keep.size
        have e : L ++ [10] = H.log ++ (Lib.decDigits k1 ++ (waitL H.turns H.ports.length ++ [10])) := by
          rw [HL.out, HJN.out, HN.out, HD.out]; simp [List.append_assoc]
        have ek : H.clock + 1 = (k1 : Int) := by rw [HK1.out.2, HK1.out.1]; omega
        show TkSt _ _ _ _ _ _ _ _ _ _ _ _ _ _
        rw [← e, ek]
        refine ⟨⟨_, v5, Fh5, h5, fun i hi => ?_⟩, HQ.out.keep.trans hk5 fun i hi e => ?_⟩
        · rcases hf5 i hi with e1 | e1
          · exact HFR.out i e1
          · exact .inr (by omega)
        · rcases HFR.out i e with e1 | e1
          · exact e1
          · omega
      clear h5 hf5 hk5
      go_wp2_with fail
      go_end0
      exact ⟨rfl, HE.out⟩
end Go.Proofs.YtabhpbkkjijfjaaGreatDoor
