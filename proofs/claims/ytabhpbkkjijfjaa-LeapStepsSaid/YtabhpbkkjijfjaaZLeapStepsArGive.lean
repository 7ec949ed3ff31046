/-
  arena.give: an entry becomes a tenant's own.
-/
import Derived.Test.YtabhpbkkjijfjaaZLeapSteps17
namespace Go.Proofs.Ytabhpbkkjijfjaa
set_option maxRecDepth 100000
open Go.RowKit

/-- What Sweep comes to. -/
def SweepOk : Prop := ∀ (b : Nat) (S : ArS) (F : Nat → Prop) (w : World), IsAr b S w F → Calls Try.prog 76 #[.pointer (some ⟨b, 0, none⟩)] w fun e w' => (∃ r : Int, e = .returned (.int .i64 r)) ∧ ∃ F', IsAr b (sweptA S) w' F' ∧ (∀ i, F' i → F i ∨ w.heap.size ≤ i) ∧ Keeps F w w'
theorem ArAt.quoI {b : Nat} {S : ArS} {arr : Array Value} {v1 v3 : Value} {bm n : Nat} {fr : List Nat} {g : AKey → Option Nat} {vs : List Value} {w : World} {F : Nat → Prop} {lv : Nat} {X : Nat → Prop} (h : ArAt b S arr v1 v3 bm n fr g vs w F lv X) {t : Nat} (ht : t < 64) : 0 ≤ S.quo t ∧ S.quo t ≤ 200000 := by
  have hl : t < S.quota.length := by rw [h.ok.quota]; exact ht
  refine h.ok.quotaR _ ?_
  unfold ArS.quo
  rw [List.getD_eq_getElem?_getD, List.getElem?_eq_getElem hl]
  exact List.getElem_mem hl
set_option maxHeartbeats 4000000 in
set_option maxRecDepth 100000 in
theorem give_any (hsw : SweepOk) (b : Nat) (S : ArS) (F : Nat → Prop) (t : Nat) (k : AKey) (lv va : Int) (w : World) (h : IsAr b S w F) (ht : t < 64) (hg : GoodA k) (h64 : I64 lv ∧ I64 va) :
    Calls Try.prog 60 #[.pointer (some ⟨b, 0, none⟩), .int .i64 t, keyA k, .int .i64 lv, .int .i64 va] w fun e w' => ∃ (r er : Int) (S' : ArS) (F' : Nat → Prop), e = .returned (.tuple #[.int .i64 r, .int .i64 er]) ∧ Gave S t k lv va r er S' ∧ IsAr b S' w' F' ∧ (∀ i, F' i → F i ∨ w.heap.size ≤ i) ∧ Keeps F w w' := by
  obtain ⟨k0, k1, k2, k3, k4⟩ := k
  have hbX : Below w.heap.size w (w.alloc (.cells #[.int .i64 k0, .int .i64 k1, .int .i64 k2, .int .i64 k3, .int .i64 k4] 92)) := (Below.refl _ _).alloc (Nat.le_refl _) _
  have hX := h.below hbX
  have hbx0 : (w.alloc (.cells #[.int .i64 k0, .int .i64 k1, .int .i64 k2, .int .i64 k3, .int .i64 k4] 92)).heap[w.heap.size]? = some (.cells #[.int .i64 k0, .int .i64 k1, .int .i64 k2, .int .i64 k3, .int .i64 k4] 92 (0, 0)) := blk_last w _ rfl
  have hzX : (w.alloc (.cells #[.int .i64 k0, .int .i64 k1, .int .i64 k2, .int .i64 k3, .int .i64 k4] 92)).heap.size = w.heap.size + 1 := by simp
  have hFlt := h.lt
  obtain ⟨X, hXe⟩ : ∃ X, X = w.alloc (.cells #[.int .i64 k0, .int .i64 k1, .int .i64 k2, .int .i64 k3, .int .i64 k4] 92) := ⟨_, rfl⟩
  rw [← hXe] at hbX hX hbx0 hzX
  have HXE := Lib.hid hXe
  have HIS := Lib.hid hX
  obtain ⟨arr, v1, v3, bm, n, fr, g, vs, hA⟩ := hX
  have HA := Lib.hid hA
  have c2 := (hA.cell 2).trans hA.c2
  have hlook := fun q => (hA.keep ((Keeps.refl (fun _ => False) X).drewN q) (fun _ _ h => h)).look (k0, k1, k2, k3, k4) hg
  have e0 := Joins.cell_of_block hbx0 0
  have e1 := Joins.cell_of_block hbx0 1
  have e2 := Joins.cell_of_block hbx0 2
  have e3 := Joins.cell_of_block hbx0 3
  have e4 := Joins.cell_of_block hbx0 4
  simp at e0 e1 e2 e3 e4
  unfold keyA at hlook ⊢
  simp only at hlook ⊢
  have hB := hbX
  have HB0 := Lib.hid hbx0
  clear hXe h hA hbx0
  cases hf : findK S.L (k0, k1, k2, k3, k4) with
  | none =>
    rw [hf] at hlook
    simp only [Option.getD_none, Option.isSome_none, Int.natCast_zero] at hlook
    go_enter Try.func60, Try.ntmps60
    go_upto_region 1 with fail
    rw [← HXE.out]
    go_quiet (fail)
    obtain ⟨X1, hX1⟩ : ∃ Y, Y = X.drewN nq := ⟨_, rfl⟩
    rw [← hX1]
    have hA1 : ArAt b S arr v1 v3 bm n fr g vs X1 F (liveL S.L) (fun _ => False) := by rw [hX1]; exact HA.out.keep ((Keeps.refl (fun _ => False) X).drewN _) (fun _ _ h => h)
    have hB1 : Keeps F w X1 := by rw [hX1]; exact (Keeps.of_below hB).drewN _
    have HA1 := Lib.hid hA1
    have hKX1 : Keeps (fun _ => False) X X1 := by rw [hX1]; exact (Keeps.refl _ X).drewN _
    clear hlook c2 e0 e1 e2 e3 e4 hX1 hA1
    go_upto_region 4 with fail
    have hq := HA1.out.quoI ht
    have c4 := (HA1.out.cell (4 + t)).trans (HA1.out.c4 t ht)
    have c5 := (HA1.out.cell (68 + t)).trans (HA1.out.c5 t ht)
    obtain ⟨ct, hct⟩ : ∃ ct, ct = countL S.L t := ⟨_, rfl⟩
    obtain ⟨qt, hqt⟩ : ∃ qt, qt = S.quo t := ⟨_, rfl⟩
    rw [← hct] at c4
    rw [← hqt] at c5 hq
    have HCT := Lib.hid hct
    have HQT := Lib.hid hqt
    clear hct hqt
    go_quiet (fail)
    obtain ⟨X2, hX2⟩ : ∃ Y, Y = X1.drewN nq := ⟨_, rfl⟩
    rw [← hX2]
    have hA2 : ArAt b S arr v1 v3 bm n fr g vs X2 F (liveL S.L) (fun _ => False) := by rw [hX2]; exact HA1.out.keep ((Keeps.refl (fun _ => False) X1).drewN _) (fun _ _ h => h)
    have hB2 : Keeps F w X2 := by rw [hX2]; exact hB1.drewN _
    have HA2 := Lib.hid hA2
    have hKX2 : Keeps (fun _ => False) X X2 := by rw [hX2]; exact hKX1.drewN _
    clear c4 c5 hX2 hA2
    have hnk := findK_none hf
    have HNK := Lib.hid hnk
    have hXlt : ∀ i, F i → i < w.heap.size := hFlt
    clear hnk hf
    by_cases hquo : qt ≤ (ct : Int)
    · have t1 : decide ((ct : Int) ≥ qt) = true := decide_eq_true hquo
      have t2 : decide (qt ≤ (ct : Int)) = true := decide_eq_true hquo
      have HG := Lib.hid (show Gave S t (k0, k1, k2, k3, k4) lv va 0 9 S from .inr (.inl ⟨fun i x hx => absurd hx (HNK.out i x), by rw [← HQT.out, ← HCT.out]; exact hquo, rfl, rfl, rfl⟩))
      go_wp2_with fail
      go_ret2
      exact ⟨0, 9, S, F, rfl, HG.out, ⟨_, _, _, _, _, _, _, _, HA2.out⟩, fun i hi => .inl hi, hB2⟩
    · have t1 : decide ((ct : Int) ≥ qt) = false := decide_eq_false hquo
      have t2 : decide (qt ≤ (ct : Int)) = false := decide_eq_false hquo
      have hlt : (ct : Int) < qt := by omega
      have hquo2 : (countL S.L t : Int) < S.quo t := by rw [← HQT.out, ← HCT.out]; omega
      have HQ2 := Lib.hid hquo2
      have c7 := (HA2.out.cell 196).trans HA2.out.c7
      have c0 := (HA2.out.cell 0).trans HA2.out.c0
      obtain ⟨lv0, hlv0⟩ : ∃ l, l = liveL S.L := ⟨_, rfl⟩
      obtain ⟨rm, hrm⟩ : ∃ l, l = S.room := ⟨_, rfl⟩
      rw [← hlv0] at c7
      rw [← hrm] at c0
      have HLV0 := Lib.hid hlv0
      have HRM := Lib.hid hrm
      clear hquo hquo2 hlv0 hrm
      go_upto_region 7 with fail
      go_quiet (fail)
      clear c7 c0
      obtain ⟨X3, hX3⟩ : ∃ Y, Y = X2.drewN nq := ⟨_, rfl⟩
      rw [← hX3]
      have hA3 : IsAr b S X3 F := by rw [hX3]; exact ⟨_, _, _, _, _, _, _, _, HA2.out.keep ((Keeps.refl (fun _ => False) X2).drewN _) (fun _ _ h => h)⟩
      have hB3 : Keeps F w X3 := by rw [hX3]; exact hB2.drewN _
      have hKX3 : Keeps (fun _ => False) X X3 := by rw [hX3]; exact hKX2.drewN _
      have HA3 := Lib.hid hA3
      clear hX3 hA3 t1 t2
      go_upto_if 63 with fail
      go_cut [] from 63 to 65 (fun wx => ∃ (S1 : ArS) (F1 : Nat → Prop), Aside (S1 = (if S.room ≤ liveL S.L then sweptA S else S) ∧ IsAr b S1 wx F1 ∧ (∀ i, F1 i → F i ∨ X3.heap.size ≤ i) ∧ Keeps F X3 wx))
      case first =>
        by_cases hfull : rm ≤ lv0
        · have u1 : decide ((lv0 : Int) ≥ (rm : Int)) = true := decide_eq_true (by omega)
          have u2 : decide ((rm : Int) ≤ (lv0 : Int)) = true := decide_eq_true (by omega)
          have u3 : decide (rm ≤ lv0) = true := decide_eq_true hfull
          go_wp2_with fail
          refine (hsw b S F X3 HA3.out).mono ?_
          rintro e w4 ⟨⟨r, rfl⟩, F1, h1, h2, h3⟩
          have H1 : Aside (sweptA S = (if S.room ≤ liveL S.L then sweptA S else S) ∧ IsAr b (sweptA S) w4 F1 ∧ (∀ i, F1 i → F i ∨ X3.heap.size ≤ i) ∧ Keeps F X3 w4) := ⟨by rw [if_pos (by rw [← HRM.out, ← HLV0.out]; exact hfull)], h1, h2, h3⟩
          clear h1 h2 h3
          go_wp2_with fail
          go_meet
          exact ⟨sweptA S, F1, H1⟩
        · have u1 : decide ((lv0 : Int) ≥ (rm : Int)) = false := decide_eq_false (by omega)
          have u2 : decide ((rm : Int) ≤ (lv0 : Int)) = false := decide_eq_false (by omega)
          have u3 : decide (rm ≤ lv0) = false := decide_eq_false hfull
          have H1 : Aside (S = (if S.room ≤ liveL S.L then sweptA S else S) ∧ IsAr b S X3 F ∧ (∀ i, F i → F i ∨ X3.heap.size ≤ i) ∧ Keeps F X3 X3) := ⟨by rw [if_neg (by rw [← HRM.out, ← HLV0.out]; exact hfull)], HA3.out, fun i hi => .inl hi, Keeps.refl _ _⟩
          go_wp2_with fail
          go_meet
          exact ⟨S, F, H1⟩
      case rest =>
      obtain ⟨S1, F1, hcut1⟩ := hcut
      have hzX3 := hKX3.size
      have hbox : wc.heap[w.heap.size]? = some (.cells #[.int .i64 k0, .int .i64 k1, .int .i64 k2, .int .i64 k3, .int .i64 k4] 92 (0, 0)) := by
        rw [hcut1.out.2.2.2.block _ (by omega) (fun h => by have := hXlt _ h; omega), hKX3.block _ (by omega) (fun h => h)]
        exact HB0.out
      have HBOX := Lib.hid hbox
      have HS1 := Lib.hid hcut1.out.1
      have HI1 := Lib.hid hcut1.out.2.1
      have HF1 := Lib.hid hcut1.out.2.2.1
      have HK1 := Lib.hid hcut1.out.2.2.2
      clear hbox hcut1
      obtain ⟨arr4, w1v, w3v, bm4, n4, fr4, g4, vs4, hA4⟩ := id HI1.out
      have d7 := (hA4.cell 196).trans hA4.c7
      have d0 := (hA4.cell 0).trans hA4.c0
      obtain ⟨lv1, hlv1⟩ : ∃ l, l = liveL S1.L := ⟨_, rfl⟩
      obtain ⟨rm1, hrm1⟩ : ∃ l, l = S1.room := ⟨_, rfl⟩
      rw [← hlv1] at d7
      rw [← hrm1] at d0
      have HLV1 := Lib.hid hlv1
      have HRM1 := Lib.hid hrm1
      have HA4 := Lib.hid hA4
      clear hlv1 hrm1 hA4
      go_upto_region 9 with fail
      go_quiet (fail)
      obtain ⟨X5, hX5⟩ : ∃ Y, Y = wc.drewN nq := ⟨_, rfl⟩
      rw [← hX5]
      have hA5 : ArAt b S1 arr4 w1v w3v bm4 n4 fr4 g4 vs4 X5 F1 (liveL S1.L) (fun _ => False) := by rw [hX5]; exact HA4.out.keep ((Keeps.refl (fun _ => False) wc).drewN _) (fun _ _ h => h)
      have hK5 : Keeps F X3 X5 := by rw [hX5]; exact HK1.out.drewN _
      have hbox5 : X5.heap[w.heap.size]? = some (.cells #[.int .i64 k0, .int .i64 k1, .int .i64 k2, .int .i64 k3, .int .i64 k4] 92 (0, 0)) := by rw [hX5]; exact HBOX.out
      have HA5 := Lib.hid hA5
      have HK5 := Lib.hid hK5
      have HB5 := Lib.hid hbox5
      have HB3 := Lib.hid (hB3.trans hK5 (fun _ _ h => h))
      clear d7 d0 hX5 hA5 hK5 hbox5
      by_cases hful : rm1 ≤ lv1
      · have u1 : decide ((lv1 : Int) ≥ (rm1 : Int)) = true := decide_eq_true (by omega)
        have u2 : decide ((rm1 : Int) ≤ (lv1 : Int)) = true := decide_eq_true (by omega)
        have u3 : decide (rm1 ≤ lv1) = true := decide_eq_true hful
        have HG := Lib.hid (show Gave S t (k0, k1, k2, k3, k4) lv va 0 5 S1 from .inr (.inr (.inr ⟨HNK.out, HQ2.out, S1, HS1.out, .inl ⟨by rw [← HRM1.out, ← HLV1.out]; exact hful, rfl, rfl, rfl⟩⟩)))
        go_wp2_with fail
        go_ret2
        exact ⟨0, 5, S1, F1, rfl, HG.out, ⟨_, _, _, _, _, _, _, _, HA5.out⟩, fun i hi => (HF1.out i hi).imp id (fun h => by omega), HB3.out⟩
      · have u1 : decide ((lv1 : Int) ≥ (rm1 : Int)) = false := decide_eq_false (by omega)
        have u2 : decide ((rm1 : Int) ≤ (lv1 : Int)) = false := decide_eq_false (by omega)
        have u3 : decide (rm1 ≤ lv1) = false := decide_eq_false hful
        have hlt1 : lv1 < rm1 := by omega
        have HT := Lib.hid (take_any b S1 arr4 w1v w3v bm4 n4 fr4 g4 vs4 X5 F1 HA5.out (by rw [← HLV1.out, ← HRM1.out]; exact hlt1))
        go_wp2_with fail
        refine HT.out.mono ?_
        rintro e w6 ⟨id, S6, arr6, y1, y3, fr6, F6, rfl, hL6, hS6, hA6, hF6, hK6⟩
        obtain ⟨l1, l2, l3, l4⟩ := hL6
        have hbox6 : w6.heap[w.heap.size]? = some (.cells #[.int .i64 k0, .int .i64 k1, .int .i64 k2, .int .i64 k3, .int .i64 k4] 92 (0, 0)) := by
          rw [hK6.block _ (by have := HK5.out.size; omega) (fun h => by
            rcases HF1.out _ h with h | h
            · have := hXlt _ h; omega
            · omega)]
          exact HB5.out
        have hidl : id < S6.L.length := by
          rw [hS6, roomA]
          simp only
          split
          · assumption
          · rw [List.length_append]; simp; omega
        have hidn : atL S6.L id = none := by
          rw [hS6, roomA]
          simp only
          split
          · exact l2
          · rw [atL_none]; exact l2
        obtain ⟨q, o, c, rfl, hFq, hqb, hent⟩ := hA6.ents
        have hno := none_at hidl hidn
        have m0 := hent id _ hno 0 (by omega)
        have m1 := hent id _ hno 1 (by omega)
        have m2 := hent id _ hno 2 (by omega)
        have m3 := hent id _ hno 3 (by omega)
        have m4 := hent id _ hno 4 (by omega)
        have m5 := hent id _ hno 5 (by omega)
        have m6 := hent id _ hno 6 (by omega)
        have m7 := hent id _ hno 7 (by omega)
        simp only [encO, Option.getD_none, zeroE, encEnt, List.getElem?_cons_zero, List.getElem?_cons_succ, Nat.add_zero] at m0 m1 m2 m3 m4 m5 m6 m7
        have b1 := (hA6.cell 1).trans hA6.c1
        have e0 := Joins.cell_of_block hbox6 0
        have e1 := Joins.cell_of_block hbox6 1
        have e2 := Joins.cell_of_block hbox6 2
        have e3 := Joins.cell_of_block hbox6 3
        have e4 := Joins.cell_of_block hbox6 4
        simp at e0 e1 e2 e3 e4
        have ff : ∀ j, w6.frozen? ⟨q, j, none⟩ = false := fun j => row_frozen hA6.list j
        obtain ⟨N, hN⟩ : ∃ N, N = S6.L.length := ⟨_, rfl⟩
        rw [← hN] at b1
        have hidN : id < N := by omega
        have HA6 := Lib.hid hA6
        have HN6 := Lib.hid hN
        have HS6 := Lib.hid hS6
        have HF6 := Lib.hid hF6
        have HK6 := Lib.hid hK6
        have HL6 := Lib.hid (show LeastA S1.L id from ⟨l1, l2, l3, l4⟩)
        have HID := Lib.hid hidn
        have HBX6 := Lib.hid hbox6
        have hlen6 : N ≤ 300000 := by rw [hN]; have := hA6.ok.long; have := hA6.ok.room; omega
        clear hA6 hN hS6 hF6 hK6 l2 l3 l4 hidn hno hent hbox6 hidl u1 u2 u3
        go_wp2_with fail
        go_region
        have hN6 := HN6.out
        obtain ⟨W7, hW7⟩ : ∃ W, W = ((((((((w6.setCell ⟨q, o + id * 8, none⟩ (.int .i64 k0)).setCell ⟨q, o + id * 8 + 1, none⟩ (.int .i64 k1)).setCell ⟨q, o + id * 8 + 2, none⟩ (.int .i64 k2)).setCell ⟨q, o + id * 8 + 3, none⟩ (.int .i64 k3)).setCell ⟨q, o + id * 8 + 4, none⟩ (.int .i64 k4)).setCell ⟨q, o + id * 8 + 5, none⟩ (.int .i64 lv)).setCell ⟨q, o + id * 8 + 6, none⟩ (.int .i64 va)).setCell ⟨q, o + id * 8 + 7, none⟩ (.int .u64 0)).drew := ⟨_, rfl⟩
        rw [← hW7]
        have hidl : id < S6.L.length := by rw [← hN6]; exact hidN
        have hno := none_at hidl HID.out
        have hR7 : Row W7 95 8 (.slice (some ⟨q, o, none⟩) S6.L.length c) S6.L.length (encL (S6.L.set id (some (entOf (k0, k1, k2, k3, k4) lv va 0)))) := by
          rw [hW7]
          exact (row_ent HA6.out.list hno k0 k1 k2 k3 k4 lv va).drew'
        have hK7 : Keeps (fun j => j = q) w6 W7 := by rw [hW7]; exact (keeps_ent (G := fun j => j = q) rfl _ _ _ _ _ _ _ _).drew
        have hM7 := HA6.out.map.keep (hK7.block bm4 HA6.out.map.lt (fun e => map_apart HA6.out.map HA6.out.list (by rw [e]; rfl)))
        obtain ⟨st, W1', hen1, hen2, hen3, hen4, hen5⟩ := MapOf.entry key_keyed (t := 58) (e := 3) (z := .int .i64 0) Try.underlying58 (fun u => by kernel_rfl) (w := W7.drew) (hM7.keep rfl) hg
        obtain ⟨W8, hW8a, hW8b, hM8, hK8, hZ8⟩ := hen5 (idV id)
        have hbw : w.heap.size ≠ q := fun e => by
          have h1 := HF6.out q hFq
          have := hB3.size
          rcases h1 with h1 | h1
          · rcases HF1.out q h1 with h2 | h2
            · have := hXlt q h2; omega
            · omega
          · have := HK5.out.size; omega
        have hb7 : W7.heap[b]? = some (.cells arr6 64 (0, 0)) := (hK7.block b (lt_of_block HA6.out.own) (fun e => hqb e.symm)).trans HA6.out.own
        have hx7 : W7.heap[w.heap.size]? = some (.cells #[.int .i64 k0, .int .i64 k1, .int .i64 k2, .int .i64 k3, .int .i64 k4] 92 (0, 0)) := (hK7.block _ (lt_of_block HBX6.out) hbw).trans HBX6.out
        have p2 : W7.cell? ⟨b, 2, none⟩ = some (.map (some bm4)) := (Joins.cell_of_block hb7 2).trans HA6.out.c2
        have p3 := Joins.cell_of_block hx7 0
        have p4 := Joins.cell_of_block hx7 1
        have p5 := Joins.cell_of_block hx7 2
        have p6 := Joins.cell_of_block hx7 3
        have p7 := Joins.cell_of_block hx7 4
        simp at p3 p4 p5 p6 p7
        have hW8c : (Instr.mapUpdate 58 (.map (some bm4)) (.agg #[.int .i64 k0, .int .i64 k1, .int .i64 k2, .int .i64 k3, .int .i64 k4]) (.int .i64 id)).run Try.prog W7.drew = .ok () W8 := hW8b
        clear hW8b
        have HR7 := Lib.hid hR7
        have HK7 := Lib.hid hK7
        have HM8 := Lib.hid hM8
        have HK8 := Lib.hid hK8
        clear hen1 hen2 hen3 hen4 hen5 hW8a hM7 hR7 hK7 hM8 hK8 hW7 m0 m1 m2 m3 m4 m5 m6 m7 b1 e0 e1 e2 e3 e4 ff hno hN6
        go_wp2_with fail
        go_region
        have hS6 := HS6.out
        have hlv6 : liveL S6.L = liveL S1.L := by rw [hS6]; exact live_room _ _
        have hkn6 : ∀ j x, atL S6.L j = some x → x.key ≠ (k0, k1, k2, k3, k4) := fun j x hx e => by
          rw [hS6, room_at, HS1.out] at hx
          split at hx
          · exact HNK.out j x ⟨swept_at hx, e⟩
          · exact HNK.out j x ⟨hx, e⟩
        have hA6' := HA6.out
        rw [← hlv6] at hA6'
        have hAP := hA6'.put HL6.out.1 (by rw [← HN6.out]; exact hidN) HID.out hkn6 (by rw [hlv6, hS6]; show liveL S1.L < S1.room; rw [← HLV1.out, ← HRM1.out]; exact hlt1) hg h64 (w' := W8) (HR7.out.keep fun q' hq' => by
          simp only [Value.ownBlock, Option.some.injEq] at hq'
          subst hq'
          exact HK8.out.block q (HR7.out.lt q rfl) (fun e => map_apart HA6.out.map HA6.out.list (by rw [← e]; rfl))) HM8.out ((HK7.out.mono fun j _ e => .inr (by rw [e]; rfl)).trans ((Keeps.refl (fun j => j = bm4) W7).drew.trans HK8.out (fun _ _ h => h)) (fun j _ e => .inl e))
        have HF2 := Lib.hid (show ∀ i, F6 i → F i ∨ w.heap.size ≤ i from fun i hi => by
          rcases HF6.out i hi with h1 | h1
          · rcases HF1.out i h1 with h2 | h2
            · exact .inl h2
            · exact .inr (by omega)
          · exact .inr (by have := HK5.out.size; omega))
        have hin : ∀ i, i < w.heap.size → F6 i → F i := fun i hi h => by
          rcases HF2.out i h with h1 | h1
          · exact h1
          · omega
        have hc1 : Keeps F w w6 := HB3.out.trans HK6.out (fun i hi h => by
          rcases HF1.out i h with h2 | h2
          · exact h2
          · omega)
        have hc2 : Keeps F w W7 := hc1.trans HK7.out (fun i hi e => by rw [e]; exact hin q (by rw [← e]; exact hi) hFq)
        have HKF := Lib.hid (hc2.drew.trans HK8.out (fun i hi e => by rw [e]; exact hin bm4 (by rw [← e]; exact hi) HA6.out.fm))
        clear hin hc1 hc2
        obtain ⟨x2, hx2⟩ : ∃ x, x = entOf (k0, k1, k2, k3, k4) lv va 0 := ⟨_, rfl⟩
        obtain ⟨S2, hS2⟩ : ∃ S2, S2 = putA S6 id (k0, k1, k2, k3, k4) lv va := ⟨_, rfl⟩
        rw [← hS2] at hAP
        have HAP := Lib.hid hAP
        have HX2 := Lib.hid (show atL S2.L id = some x2 by rw [hS2, hx2]; show atL (S6.L.set id _) id = _; rw [atL_set (by rw [← HN6.out]; exact hidN), if_pos rfl])
        have HBT := Lib.hid (show x2.ma.testBit t = false by rw [hx2]; simp [entOf])
        have HGV := Lib.hid (show Gave S t (k0, k1, k2, k3, k4) lv va id 0 (takeA S2 t id x2) from .inr (.inr (.inr ⟨HNK.out, HQ2.out, S1, HS1.out, .inr ⟨by rw [← HLV1.out, ← HRM1.out]; exact hlt1, id, HL6.out, rfl, rfl, by rw [newA, ← hS6, ← hS2, hx2]⟩⟩)))
        clear hS6 hlv6 hkn6 hA6' hAP hx2 hS2 p2 p3 p4 p5 p6 p7 hb7 hx7 hW8c hZ8
        have hAP := HAP.out
        obtain ⟨q2, o2, c2', hy, hFq2, hqb2, hent2⟩ := hAP.ents
        have b1 := (hAP.cell 1).trans hAP.c1
        rw [hy] at b1
        have m7 := hent2 id _ (atL_some.1 HX2.out) 7 (by omega)
        simp only [encO, Option.getD_some, encEnt, List.getElem?_cons_zero, List.getElem?_cons_succ] at m7
        have hlist2 := hAP.list
        rw [hy] at hlist2
        have ff : W8.frozen? ⟨q2, o2 + id * 8 + 7, none⟩ = false := row_frozen hlist2 _
        obtain ⟨N2, hN2⟩ : ∃ N, N = S2.L.length := ⟨_, rfl⟩
        rw [← hN2] at b1
        have hidN2 : id < N2 := by rw [hN2]; exact atL_lt HX2.out
        have hlen2 : N2 ≤ 300000 := by rw [hN2]; have := hAP.ok.long; have := hAP.ok.room; omega
        have hma := hAP.ok.mask id x2 HX2.out
        obtain ⟨ma, hmaE⟩ : ∃ m, m = x2.ma := ⟨_, rfl⟩
        rw [← hmaE] at m7 hma
        have HY := Lib.hid hy
        have HN2 := Lib.hid hN2
        have HMA := Lib.hid hmaE
        have hor := or_bit hma ht
        have hR9 : Row (W8.setCell ⟨q2, o2 + id * 8 + 7, none⟩ (.int .u64 ((ma ||| 2 ^ t : Nat) : Int))) 95 8 (.slice (some ⟨q2, o2, none⟩) S2.L.length c2') S2.L.length (encL (S2.L.set id (some { x2 with ma := x2.ma ||| 2 ^ t }))) := by
          have h1 := row_cell (k := 7) (o' := some { x2 with ma := x2.ma ||| 2 ^ t }) (v := .int .u64 ((ma ||| 2 ^ t : Nat) : Int)) hlist2 (atL_some.1 HX2.out) (by omega) (by rw [hmaE]; rfl)
          rwa [List.length_set] at h1
        obtain ⟨mm, hmm⟩ : ∃ m, m = ma ||| 2 ^ t := ⟨_, rfl⟩
        rw [← hmm] at hor hR9
        obtain ⟨W9, hW9⟩ : ∃ W, W = W8.setCell ⟨q2, o2 + id * 8 + 7, none⟩ (.int .u64 (mm : Int)) := ⟨_, rfl⟩
        have hK9 : Keeps (fun j => j = q2) W8 W9 := by rw [hW9]; exact (Keeps.refl (fun j => j = q2) W8).setCell (p := ⟨q2, o2 + id * 8 + 7, none⟩) (fun _ => rfl) _
        rw [← hW9] at hR9
        have hW9s := hW9.symm
        have HR9 := Lib.hid hR9
        have hb9 : W9.heap[b]? = _ := (hK9.block b (lt_of_block hAP.own) (fun e => hqb2 e.symm)).trans hAP.own
        have g4' := (Joins.cell_of_block hb9 (4 + t)).trans (hAP.c4 t ht)
        have fz9 : ∀ j, W9.frozen? ⟨b, j, none⟩ = false := fun j => Joins.unfrozen_of_block hb9 j
        obtain ⟨cn, hcn⟩ : ∃ cn, cn = countL S2.L t := ⟨_, rfl⟩
        obtain ⟨cn1, hcn1⟩ : ∃ cn1, cn1 = cn + 1 := ⟨_, rfl⟩
        rw [← hcn] at g4'
        have hcI : (cn : Int) + 1 = (cn1 : Int) := by omega
        have hcb : cn ≤ 200000 := by rw [hcn]; have := countL_le S2.L t; have := hAP.ok.live; have := hAP.ok.room; omega
        have HCN := Lib.hid (show cn1 = countL S2.L t + 1 by omega)
        have HB9 := Lib.hid hb9
        have HK9 := Lib.hid hK9
        clear hAP hent2 hlist2 hy hN2 hmaE hmm hW9 hR9 hK9 hcn hcn1 hb9
        go_upto_region 15 with fail
        go_region
        obtain ⟨W10, hW10⟩ : ∃ W, W = (W9.setCell ⟨b, 4 + t, none⟩ (.int .i64 (cn1 : Int))).drew := ⟨_, rfl⟩
        rw [← hW10]
        have hb10 : W10.heap[b]? = some (.cells (arr6.setIfInBounds (4 + t) (.int .i64 (cn1 : Int))) 64 (0, 0)) := by rw [hW10]; exact Joins.block_setCell HB9.out _
        have hK10 : Keeps (fun j => j = b) W9 W10 := by rw [hW10]; exact ((Keeps.refl (fun j => j = b) W9).setCell (p := ⟨b, 4 + t, none⟩) (fun _ => rfl) _).drew
        obtain ⟨v, hv⟩ : ∃ v, vs4[t]? = some v := ⟨_, List.getElem?_eq_getElem (by rw [HAP.out.len]; exact ht)⟩
        have hvr := HAP.out.rows t v hv
        have hvb := HAP.out.nv hv
        have hvq : ∀ g, v.ownBlock = some g → g ≠ q2 := fun g hg e => rows_apart hvr HAP.out.list (by decide) hg (by rw [HY.out, e]; rfl)
        have hvr10 : Row W10 3 1 v (S2.add t).length ((S2.add t).map idV) := hvr.keep fun g hg => (hK10.block g (Nat.lt_of_lt_of_le (hvr.lt g hg) HK9.out.size) (fun e => hvb (by rw [← e]; exact hg))).trans (HK9.out.block g (hvr.lt g hg) (hvq g hg))
        have hfew : (S2.add t).length ≤ 200000 := by
          have hl : t < S2.added.length := by rw [HAP.out.ok.added]; exact ht
          have h1 := HAP.out.ok.few t (S2.add t) (by rw [ArS.add, List.getD_eq_getElem?_getD, List.getElem?_eq_getElem hl]; rfl)
          have h2 := countL_le S2.L t
          have h3 := HAP.out.ok.live
          have h4 := HAP.out.ok.room
          omega
        obtain ⟨va', vc', hvf, _, _, _⟩ := hvr.form
        have w132 := (Joins.cell_of_block hb10 (132 + t)).trans ((set_at (by omega)).trans ((HAP.out.c6 t ht).trans hv))
        obtain ⟨qn, hqn⟩ : ∃ qn, qn = (S2.add t).length := ⟨_, rfl⟩
        rw [hvf, ← hqn] at w132
        rw [hvf, ← hqn] at hvr10
        have hbl10 := lt_of_block hb10
        have hbne : some b ≠ (Value.slice va' qn vc').ownBlock := fun e => hvb (by rw [hvf, ← hqn]; exact e.symm)
        have hr11 : Row (W10.drew.alloc (.cells #[.int .i64 id] 3)) 3 1 (.slice va' qn vc') qn ((S2.add t).map idV) := hvr10.keep fun g hg => Below.heap_alloc W10.drew _ g (hvr10.lt g hg)
        obtain ⟨i1, hi1, hz10, hz11, hz12⟩ := info_parts infoNum
        have H11 := Lib.hid hr11
        have HBN := Lib.hid hbne
        have HB10 := Lib.hid hb10
        have HK10 := Lib.hid hK10
        have HVF := Lib.hid hvf
        have HQN := Lib.hid hqn
        have HV := Lib.hid hv
        have HVR10 := Lib.hid hvr10
        have ht64 : (t : Int) < 64 := by omega
        have ht00 : (0 : Int) ≤ (t : Int) := by omega
        have fz10 : W10.frozen? ⟨b, 132 + t, none⟩ = false := Joins.unfrozen_of_block hb10 _
        rw [← hqn] at hfew
        clear hW10 hb10 hK10 hvr hvb hvq hvr10 hvf hqn hbne hr11 hv g4' fz9 hor m7 ff b1 hW9s
        go_upto_region 16 with fail
        go_region_law ((refine step_append_row _ rfl (.tmp 124) (.tmp 126) 59 rfl 3 i1 _ 1 8 Try.underlying59 hi1 hz10 hz11 hz12 rfl (by omega) (.slice va' qn vc') qn ((S2.add t).map idV) rfl H11.out ⟨W10.heap.size, 0, none⟩ 1 1 [.int .i64 id] rfl rfl (news_alloc W10.drew _ _ rfl) (by simp [Value.oneCell']) (by omega) (by unfold maxLen; omega) (by omega) _ rfl ?_; intro g9 off cap w11 hrow hg11 hat; have z1 : w11.cell? ⟨b, 132 + t, none⟩ = some (.slice va' qn vc') := (hg11.cell_far (a := ⟨b, 132 + t, none⟩) (by simp; omega) HBN.out).trans ((World.cell?_of_block (Below.heap_alloc W10.drew _ b hbl10)).trans w132); have z2 : w11.frozen? ⟨b, 132 + t, none⟩ = false := (hg11.frozen_far (a := ⟨b, 132 + t, none⟩) (by simp; omega) HBN.out).trans ((World.frozen?_of_block (Below.heap_alloc W10.drew _ b hbl10)).trans (Joins.unfrozen_of_block HB10.out (132 + t)))))
        all_goals
          go_wp2_with fail
          go_ret2
          have hY := HY.out
          have hVF := HVF.out
          have hQN := HQN.out
          rw [← hQN] at hVF
          have hge10 : W8.heap.size ≤ W10.heap.size := Nat.le_trans HK9.out.size HK10.out.size
          have hge : ∀ o : Obj, g9 = (W10.alloc o).drew.heap.size → W8.heap.size ≤ g9 := fun o e => by
            rw [e]; show W8.heap.size ≤ (W10.alloc o).heap.size; simp; omega
          have hvo : ∀ q', (Value.slice (some ⟨g9, off, none⟩) (qn + 1) cap).ownBlock = some q' → v.ownBlock = some q' ∨ W8.heap.size ≤ q' := fun q' hq' => by
            simp only [Value.ownBlock, Option.some.injEq] at hq'
            subst hq'
            rcases hat with hat | hat
            · exact .inl (by rw [hVF]; exact hat)
            · exact .inr (hge _ hat)
          have hvb := HAP.out.nv HV.out
          have hgb : g9 ≠ b := fun e => by
            rcases hvo g9 rfl with h1 | h1
            · exact hvb (by rw [← e]; exact h1)
            · have := lt_of_block HAP.out.own; omega
          have hb11 : w11.heap[b]? = some (.cells (arr6.setIfInBounds (4 + t) (.int .i64 (cn1 : Int))) 64 (0, 0)) := by
            rw [hg11.block b (by simp; omega) HBN.out]; exact (Below.heap_alloc W10 _ b hbl10).trans HB10.out
          have hq2l : q2 < W8.heap.size := HAP.out.list.lt q2 (by rw [hY]; rfl)
          have hq2v : some q2 ≠ (Value.slice va' qn vc').ownBlock := fun e => rows_apart HAP.out.list (HAP.out.rows t v HV.out) (by decide) (by rw [hY]; rfl) (by rw [hVF]; exact e.symm)
          have hl11 : Row (w11.setCell ⟨b, 132 + t, none⟩ (.slice (some ⟨g9, off, none⟩) (qn + 1) cap)) 95 8 (.slice (some ⟨q2, o2, none⟩) S2.L.length c2') S2.L.length (encL (S2.L.set id (some { x2 with ma := x2.ma ||| 2 ^ t }))) := HR9.out.keep fun q' hq' => by
            simp only [Value.ownBlock, Option.some.injEq] at hq'
            subst hq'
            have h9 := HK9.out.size
            have h10 := HK10.out.size
            rw [Below.heap_setCell _ _ _ _ hqb2, hg11.block q2 (by simp; omega) hq2v]
            exact (Below.heap_alloc W10 _ q2 (by omega)).trans (HK10.out.block q2 (by omega) hqb2)
          have hr11 : Row (w11.setCell ⟨b, 132 + t, none⟩ (.slice (some ⟨g9, off, none⟩) (qn + 1) cap)) 3 1 (.slice (some ⟨g9, off, none⟩) (qn + 1) cap) ((S2.add t).length + 1) ((S2.add t ++ [id]).map idV) := by
            rw [List.map_append, ← hQN]
            exact hrow.keep fun q' hq' => by
              simp only [Value.ownBlock, Option.some.injEq] at hq'
              subst hq'
              exact Below.heap_setCell _ _ _ _ hgb
          have hk11 : Keeps (fun k => k = b ∨ (Value.slice (some ⟨q2, o2, none⟩) S2.L.length c2').ownBlock = some k ∨ v.ownBlock = some k) W8 (w11.setCell ⟨b, 132 + t, none⟩ (.slice (some ⟨g9, off, none⟩) (qn + 1) cap)) := by
            refine Keeps.setCell (p := ⟨b, 132 + t, none⟩) ?_ (fun _ => .inl rfl) _
            refine Keeps.grown ((((HK9.out.mono fun i _ e => .inr (.inl (by rw [e]; rfl))).trans HK10.out (fun i _ e => .inl e)).alloc (.cells #[.int .i64 id] 3)).drew) hg11 fun g' hg' _ => .inr (.inr (by rw [hVF]; exact hg'))
          have hT := HAP.out.taken HX2.out HBT.out ht HV.out (w' := w11.setCell ⟨b, 132 + t, none⟩ (.slice (some ⟨g9, off, none⟩) (qn + 1) cap)) (by rw [← HCN.out]; exact Joins.block_setCell hb11 _) (by rw [hY]; exact hl11) hr11 hvo (by rw [hY]; exact hk11)
          refine ⟨id, 0, takeA S2 t id x2, _, rfl, HGV.out, ⟨_, _, _, _, _, _, _, _, by rw [show liveL (takeA S2 t id x2).L = liveL S2.L from live_set HX2.out]; exact hT⟩, fun i hi => ?_, HKF.out.trans hk11 fun i hi e => ?_⟩
          · rcases hi with hi | hi
            · exact HF2.out i hi
            · rcases hvo i hi with h1 | h1
              · exact HF2.out i (HAP.out.fv t v i HV.out h1)
              · exact .inr (by have := HKF.out.size; omega)
          · have hin : F6 i := by
              rcases e with e | e | e
              · rw [e]; exact HAP.out.fb
              · exact HAP.out.f1 i (by rw [hY]; exact e)
              · exact HAP.out.fv t v i HV.out e
            rcases HF2.out i hin with h1 | h1
            · exact h1
            · omega
  | some i =>
    rw [hf] at hlook
    simp only [Option.getD_some, Option.isSome_some] at hlook
    obtain ⟨x, hx, hxk⟩ := (findK_iff HIS.out.ok).1 hf
    have HX := Lib.hid hx
    have HXK := Lib.hid hxk
    clear hf hx hxk
    go_enter Try.func60, Try.ntmps60
    go_upto_region 1 with fail
    rw [← HXE.out]
    go_quiet (fail)
    obtain ⟨X1, hX1⟩ : ∃ Y, Y = X.drewN nq := ⟨_, rfl⟩
    rw [← hX1]
    have hA1 : ArAt b S arr v1 v3 bm n fr g vs X1 F (liveL S.L) (fun _ => False) := by rw [hX1]; exact HA.out.keep ((Keeps.refl (fun _ => False) X).drewN _) (fun _ _ h => h)
    have hB1 : Keeps F w X1 := by rw [hX1]; exact (Keeps.of_below hB).drewN _
    obtain ⟨q1, o1, cc1, hy1, _, _, hent1⟩ := hA1.ents
    have b1 := (hA1.cell 1).trans hA1.c1
    rw [hy1] at b1
    have m7 := hent1 i _ (atL_some.1 HX.out) 7 (by omega)
    simp only [encO, Option.getD_some, encEnt, List.getElem?_cons_zero, List.getElem?_cons_succ] at m7
    have hbit := bit_u64 x.ma t
    obtain ⟨NN, hNN⟩ : ∃ N, N = S.L.length := ⟨_, rfl⟩
    rw [← hNN] at b1
    have hiN : i < NN := by rw [hNN]; exact atL_lt HX.out
    have hlenN : NN ≤ 300000 := by rw [hNN]; have := hA1.ok.long; have := hA1.ok.room; omega
    have HA1 := Lib.hid hA1
    clear hlook c2 e0 e1 e2 e3 e4 hX1 hA1 hent1 hy1 hNN
    by_cases hm : x.ma.testBit t = true
    · have HG := Lib.hid (show Gave S t (k0, k1, k2, k3, k4) lv va i 0 S from .inl ⟨i, x, ⟨HX.out, HXK.out⟩, hm, rfl, rfl, rfl⟩)
      rw [hm] at hbit
      go_wp2_with fail
      go_ret2
      exact ⟨i, 0, S, F, rfl, HG.out, ⟨_, _, _, _, _, _, _, _, HA1.out⟩, fun i hi => .inl hi, hB1⟩
    · have hm' : x.ma.testBit t = false := by simpa using hm
      rw [hm'] at hbit
      have HM := Lib.hid hm'
      clear hm hm'
      go_upto_region 4 with fail
      have hq := HA1.out.quoI ht
      have c4 := (HA1.out.cell (4 + t)).trans (HA1.out.c4 t ht)
      have c5 := (HA1.out.cell (68 + t)).trans (HA1.out.c5 t ht)
      obtain ⟨ct, hct⟩ : ∃ ct, ct = countL S.L t := ⟨_, rfl⟩
      obtain ⟨qt, hqt⟩ : ∃ qt, qt = S.quo t := ⟨_, rfl⟩
      rw [← hct] at c4
      rw [← hqt] at c5 hq
      have HCT := Lib.hid hct
      have HQT := Lib.hid hqt
      clear hct hqt b1 m7 hbit
      go_quiet (fail)
      obtain ⟨W8, hX2⟩ : ∃ Y, Y = X1.drewN nq := ⟨_, rfl⟩
      rw [← hX2]
      have hA2 : ArAt b S arr v1 v3 bm n fr g vs W8 F (liveL S.L) (fun _ => False) := by rw [hX2]; exact HA1.out.keep ((Keeps.refl (fun _ => False) X1).drewN _) (fun _ _ h => h)
      have hB2 : Keeps F w W8 := by rw [hX2]; exact hB1.drewN _
      have HAP := Lib.hid hA2
      clear c4 c5 hX2 hA2
      by_cases hquo : qt ≤ (ct : Int)
      · have t1 : decide ((ct : Int) ≥ qt) = true := decide_eq_true hquo
        have t2 : decide (qt ≤ (ct : Int)) = true := decide_eq_true hquo
        have HG := Lib.hid (show Gave S t (k0, k1, k2, k3, k4) lv va 0 9 S from .inr (.inl ⟨fun j y hy => by
          have e := HAP.out.ok.uniq j i y x hy.1 HX.out (hy.2.trans HXK.out.symm)
          subst e
          have h2 := hy.1.symm.trans HX.out
          cases h2
          exact HM.out, by rw [← HQT.out, ← HCT.out]; exact hquo, rfl, rfl, rfl⟩))
        go_wp2_with fail
        go_ret2
        exact ⟨0, 9, S, F, rfl, HG.out, ⟨_, _, _, _, _, _, _, _, HAP.out⟩, fun i hi => .inl hi, hB2⟩
      · have t1 : decide ((ct : Int) ≥ qt) = false := decide_eq_false hquo
        have t2 : decide (qt ≤ (ct : Int)) = false := decide_eq_false hquo
        have hlt : (ct : Int) < qt := by omega
        have HX2 := Lib.hid HX.out
        have HBT := Lib.hid HM.out
        have HF2 := Lib.hid (show ∀ j, F j → F j ∨ w.heap.size ≤ j from fun j hj => .inl hj)
        have HKF := Lib.hid hB2
        have HGV := Lib.hid (show Gave S t (k0, k1, k2, k3, k4) lv va i 0 (takeA S t i x) from .inr (.inr (.inl ⟨i, x, ⟨HX.out, HXK.out⟩, HM.out, by rw [← HQT.out, ← HCT.out]; exact hlt, rfl, rfl, rfl⟩)))
        clear hquo
        have hAP := HAP.out
        obtain ⟨q2, o2, c2', hy, hFq2, hqb2, hent2⟩ := hAP.ents
        have b1 := (hAP.cell 1).trans hAP.c1
        rw [hy] at b1
        have m7 := hent2 i _ (atL_some.1 HX2.out) 7 (by omega)
        simp only [encO, Option.getD_some, encEnt, List.getElem?_cons_zero, List.getElem?_cons_succ] at m7
        have hlist2 := hAP.list
        rw [hy] at hlist2
        have ff : W8.frozen? ⟨q2, o2 + i * 8 + 7, none⟩ = false := row_frozen hlist2 _
        obtain ⟨N2, hN2⟩ : ∃ N, N = S.L.length := ⟨_, rfl⟩
        rw [← hN2] at b1
        have hidN2 : i < N2 := by rw [hN2]; exact atL_lt HX2.out
        have hlen2 : N2 ≤ 300000 := by rw [hN2]; have := hAP.ok.long; have := hAP.ok.room; omega
        have hma := hAP.ok.mask i x HX2.out
        obtain ⟨ma, hmaE⟩ : ∃ m, m = x.ma := ⟨_, rfl⟩
        rw [← hmaE] at m7 hma
        have HY := Lib.hid hy
        have HN2 := Lib.hid hN2
        have HMA := Lib.hid hmaE
        have hor := or_bit hma ht
        have hR9 : Row (W8.setCell ⟨q2, o2 + i * 8 + 7, none⟩ (.int .u64 ((ma ||| 2 ^ t : Nat) : Int))) 95 8 (.slice (some ⟨q2, o2, none⟩) S.L.length c2') S.L.length (encL (S.L.set i (some { x with ma := x.ma ||| 2 ^ t }))) := by
          have h1 := row_cell (k := 7) (o' := some { x with ma := x.ma ||| 2 ^ t }) (v := .int .u64 ((ma ||| 2 ^ t : Nat) : Int)) hlist2 (atL_some.1 HX2.out) (by omega) (by rw [hmaE]; rfl)
          rwa [List.length_set] at h1
        obtain ⟨mm, hmm⟩ : ∃ m, m = ma ||| 2 ^ t := ⟨_, rfl⟩
        rw [← hmm] at hor hR9
        obtain ⟨W9, hW9⟩ : ∃ W, W = W8.setCell ⟨q2, o2 + i * 8 + 7, none⟩ (.int .u64 (mm : Int)) := ⟨_, rfl⟩
        have hK9 : Keeps (fun j => j = q2) W8 W9 := by rw [hW9]; exact (Keeps.refl (fun j => j = q2) W8).setCell (p := ⟨q2, o2 + i * 8 + 7, none⟩) (fun _ => rfl) _
        rw [← hW9] at hR9
        have hW9s := hW9.symm
        have HR9 := Lib.hid hR9
        have hb9 : W9.heap[b]? = _ := (hK9.block b (lt_of_block hAP.own) (fun e => hqb2 e.symm)).trans hAP.own
        have g4' := (Joins.cell_of_block hb9 (4 + t)).trans (hAP.c4 t ht)
        have fz9 : ∀ j, W9.frozen? ⟨b, j, none⟩ = false := fun j => Joins.unfrozen_of_block hb9 j
        obtain ⟨cn, hcn⟩ : ∃ cn, cn = countL S.L t := ⟨_, rfl⟩
        obtain ⟨cn1, hcn1⟩ : ∃ cn1, cn1 = cn + 1 := ⟨_, rfl⟩
        rw [← hcn] at g4'
        have hcI : (cn : Int) + 1 = (cn1 : Int) := by omega
        have hcb : cn ≤ 200000 := by rw [hcn]; have := countL_le S.L t; have := hAP.ok.live; have := hAP.ok.room; omega
        have HCN := Lib.hid (show cn1 = countL S.L t + 1 by omega)
        have HB9 := Lib.hid hb9
        have HK9 := Lib.hid hK9
        clear hAP hent2 hlist2 hy hN2 hmaE hmm hW9 hR9 hK9 hcn hcn1 hb9
        go_upto_region 15 with fail
        go_region
        obtain ⟨W10, hW10⟩ : ∃ W, W = (W9.setCell ⟨b, 4 + t, none⟩ (.int .i64 (cn1 : Int))).drew := ⟨_, rfl⟩
        rw [← hW10]
        have hb10 : W10.heap[b]? = some (.cells (arr.setIfInBounds (4 + t) (.int .i64 (cn1 : Int))) 64 (0, 0)) := by rw [hW10]; exact Joins.block_setCell HB9.out _
        have hK10 : Keeps (fun j => j = b) W9 W10 := by rw [hW10]; exact ((Keeps.refl (fun j => j = b) W9).setCell (p := ⟨b, 4 + t, none⟩) (fun _ => rfl) _).drew
        obtain ⟨v, hv⟩ : ∃ v, vs[t]? = some v := ⟨_, List.getElem?_eq_getElem (by rw [HAP.out.len]; exact ht)⟩
        have hvr := HAP.out.rows t v hv
        have hvb := HAP.out.nv hv
        have hvq : ∀ g, v.ownBlock = some g → g ≠ q2 := fun g hg e => rows_apart hvr HAP.out.list (by decide) hg (by rw [HY.out, e]; rfl)
        have hvr10 : Row W10 3 1 v (S.add t).length ((S.add t).map idV) := hvr.keep fun g hg => (hK10.block g (Nat.lt_of_lt_of_le (hvr.lt g hg) HK9.out.size) (fun e => hvb (by rw [← e]; exact hg))).trans (HK9.out.block g (hvr.lt g hg) (hvq g hg))
        have hfew : (S.add t).length ≤ 200000 := by
          have hl : t < S.added.length := by rw [HAP.out.ok.added]; exact ht
          have h1 := HAP.out.ok.few t (S.add t) (by rw [ArS.add, List.getD_eq_getElem?_getD, List.getElem?_eq_getElem hl]; rfl)
          have h2 := countL_le S.L t
          have h3 := HAP.out.ok.live
          have h4 := HAP.out.ok.room
          omega
        obtain ⟨va', vc', hvf, _, _, _⟩ := hvr.form
        have w132 := (Joins.cell_of_block hb10 (132 + t)).trans ((set_at (by omega)).trans ((HAP.out.c6 t ht).trans hv))
        obtain ⟨qn, hqn⟩ : ∃ qn, qn = (S.add t).length := ⟨_, rfl⟩
        rw [hvf, ← hqn] at w132
        rw [hvf, ← hqn] at hvr10
        have hbl10 := lt_of_block hb10
        have hbne : some b ≠ (Value.slice va' qn vc').ownBlock := fun e => hvb (by rw [hvf, ← hqn]; exact e.symm)
        have hr11 : Row (W10.drew.alloc (.cells #[.int .i64 i] 3)) 3 1 (.slice va' qn vc') qn ((S.add t).map idV) := hvr10.keep fun g hg => Below.heap_alloc W10.drew _ g (hvr10.lt g hg)
        obtain ⟨i1, hi1, hz10, hz11, hz12⟩ := info_parts infoNum
        have H11 := Lib.hid hr11
        have HBN := Lib.hid hbne
        have HB10 := Lib.hid hb10
        have HK10 := Lib.hid hK10
        have HVF := Lib.hid hvf
        have HQN := Lib.hid hqn
        have HV := Lib.hid hv
        have HVR10 := Lib.hid hvr10
        have ht64 : (t : Int) < 64 := by omega
        have ht00 : (0 : Int) ≤ (t : Int) := by omega
        have fz10 : W10.frozen? ⟨b, 132 + t, none⟩ = false := Joins.unfrozen_of_block hb10 _
        rw [← hqn] at hfew
        clear hW10 hb10 hK10 hvr hvb hvq hvr10 hvf hqn hbne hr11 hv g4' fz9 hor m7 ff b1 hW9s
        go_upto_region 16 with fail
        go_region_law ((refine step_append_row _ rfl (.tmp 124) (.tmp 126) 59 rfl 3 i1 _ 1 8 Try.underlying59 hi1 hz10 hz11 hz12 rfl (by omega) (.slice va' qn vc') qn ((S.add t).map idV) rfl H11.out ⟨W10.heap.size, 0, none⟩ 1 1 [.int .i64 i] rfl rfl (news_alloc W10.drew _ _ rfl) (by simp [Value.oneCell']) (by omega) (by unfold maxLen; omega) (by omega) _ rfl ?_; intro g9 off cap w11 hrow hg11 hat; have z1 : w11.cell? ⟨b, 132 + t, none⟩ = some (.slice va' qn vc') := (hg11.cell_far (a := ⟨b, 132 + t, none⟩) (by simp; omega) HBN.out).trans ((World.cell?_of_block (Below.heap_alloc W10.drew _ b hbl10)).trans w132); have z2 : w11.frozen? ⟨b, 132 + t, none⟩ = false := (hg11.frozen_far (a := ⟨b, 132 + t, none⟩) (by simp; omega) HBN.out).trans ((World.frozen?_of_block (Below.heap_alloc W10.drew _ b hbl10)).trans (Joins.unfrozen_of_block HB10.out (132 + t)))))
        all_goals
          go_wp2_with fail
          go_ret2
          have hY := HY.out
          have hVF := HVF.out
          have hQN := HQN.out
          rw [← hQN] at hVF
          have hge10 : W8.heap.size ≤ W10.heap.size := Nat.le_trans HK9.out.size HK10.out.size
          have hge : ∀ o : Obj, g9 = (W10.alloc o).drew.heap.size → W8.heap.size ≤ g9 := fun o e => by
            rw [e]; show W8.heap.size ≤ (W10.alloc o).heap.size; simp; omega
          have hvo : ∀ q', (Value.slice (some ⟨g9, off, none⟩) (qn + 1) cap).ownBlock = some q' → v.ownBlock = some q' ∨ W8.heap.size ≤ q' := fun q' hq' => by
            simp only [Value.ownBlock, Option.some.injEq] at hq'
            subst hq'
            rcases hat with hat | hat
            · exact .inl (by rw [hVF]; exact hat)
            · exact .inr (hge _ hat)
          have hvb := HAP.out.nv HV.out
          have hgb : g9 ≠ b := fun e => by
            rcases hvo g9 rfl with h1 | h1
            · exact hvb (by rw [← e]; exact h1)
            · have := lt_of_block HAP.out.own; omega
          have hb11 : w11.heap[b]? = some (.cells (arr.setIfInBounds (4 + t) (.int .i64 (cn1 : Int))) 64 (0, 0)) := by
            rw [hg11.block b (by simp; omega) HBN.out]; exact (Below.heap_alloc W10 _ b hbl10).trans HB10.out
          have hq2l : q2 < W8.heap.size := HAP.out.list.lt q2 (by rw [hY]; rfl)
          have hq2v : some q2 ≠ (Value.slice va' qn vc').ownBlock := fun e => rows_apart HAP.out.list (HAP.out.rows t v HV.out) (by decide) (by rw [hY]; rfl) (by rw [hVF]; exact e.symm)
          have hl11 : Row (w11.setCell ⟨b, 132 + t, none⟩ (.slice (some ⟨g9, off, none⟩) (qn + 1) cap)) 95 8 (.slice (some ⟨q2, o2, none⟩) S.L.length c2') S.L.length (encL (S.L.set i (some { x with ma := x.ma ||| 2 ^ t }))) := HR9.out.keep fun q' hq' => by
            simp only [Value.ownBlock, Option.some.injEq] at hq'
            subst hq'
            have h9 := HK9.out.size
            have h10 := HK10.out.size
            rw [Below.heap_setCell _ _ _ _ hqb2, hg11.block q2 (by simp; omega) hq2v]
            exact (Below.heap_alloc W10 _ q2 (by omega)).trans (HK10.out.block q2 (by omega) hqb2)
          have hr11 : Row (w11.setCell ⟨b, 132 + t, none⟩ (.slice (some ⟨g9, off, none⟩) (qn + 1) cap)) 3 1 (.slice (some ⟨g9, off, none⟩) (qn + 1) cap) ((S.add t).length + 1) ((S.add t ++ [i]).map idV) := by
            rw [List.map_append, ← hQN]
            exact hrow.keep fun q' hq' => by
              simp only [Value.ownBlock, Option.some.injEq] at hq'
              subst hq'
              exact Below.heap_setCell _ _ _ _ hgb
          have hk11 : Keeps (fun k => k = b ∨ (Value.slice (some ⟨q2, o2, none⟩) S.L.length c2').ownBlock = some k ∨ v.ownBlock = some k) W8 (w11.setCell ⟨b, 132 + t, none⟩ (.slice (some ⟨g9, off, none⟩) (qn + 1) cap)) := by
            refine Keeps.setCell (p := ⟨b, 132 + t, none⟩) ?_ (fun _ => .inl rfl) _
            refine Keeps.grown ((((HK9.out.mono fun i _ e => .inr (.inl (by rw [e]; rfl))).trans HK10.out (fun i _ e => .inl e)).alloc (.cells #[.int .i64 i] 3)).drew) hg11 fun g' hg' _ => .inr (.inr (by rw [hVF]; exact hg'))
          have hT := HAP.out.taken HX2.out HBT.out ht HV.out (w' := w11.setCell ⟨b, 132 + t, none⟩ (.slice (some ⟨g9, off, none⟩) (qn + 1) cap)) (by rw [← HCN.out]; exact Joins.block_setCell hb11 _) (by rw [hY]; exact hl11) hr11 hvo (by rw [hY]; exact hk11)
          refine ⟨i, 0, takeA S t i x, _, rfl, HGV.out, ⟨_, _, _, _, _, _, _, _, by rw [show liveL (takeA S t i x).L = liveL S.L from live_set HX2.out]; exact hT⟩, fun j hi => ?_, HKF.out.trans hk11 fun j hi e => ?_⟩
          · rcases hi with hi | hi
            · exact HF2.out j hi
            · rcases hvo j hi with h1 | h1
              · exact HF2.out j (HAP.out.fv t v j HV.out h1)
              · exact .inr (by have := HKF.out.size; omega)
          · have hin : F j := by
              rcases e with e | e | e
              · rw [e]; exact HAP.out.fb
              · exact HAP.out.f1 j (by rw [hY]; exact e)
              · exact HAP.out.fv t v j HV.out e
            rcases HF2.out j hin with h1 | h1
            · exact h1
            · omega
end Go.Proofs.Ytabhpbkkjijfjaa
