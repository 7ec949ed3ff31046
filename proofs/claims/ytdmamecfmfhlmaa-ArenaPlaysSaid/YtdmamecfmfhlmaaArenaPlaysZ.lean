/-
  For every room and list of moves (at most 120), every answer of the arena is exactly what the document's plain arena answers, and both have the same squares in the end. No conditions.
-/
import Derived.Test.YtdmamecfmfhlmaaRows
import Derived.Deep.RegionHeld3
import Derived.Test.YtdmamecfmfhlmaaZArenaPlays51
namespace Go.Proofs.Ytdmamecfmfhlmaa
set_option maxRecDepth 100000
open Go.RowKit

theorem Trio.chain {ba br bd B : Nat} {X w w' : World} {S S' : ArS} {R R' : RSt} {D D' : List Nat} (h : Trio ba br bd B (fun _ => False) X S R D w) (k : Trio ba br bd B (fun _ => False) w S' R' D' w') : Trio ba br bd B (fun _ => False) X S' R' D' w' :=
  ⟨k.mem, h.keep.trans k.keep fun _ _ hi => hi, fun _ e => e.elim, h.low⟩
theorem Trio.here {ba br bd B : Nat} {X w : World} {S : ArS} {R : RSt} {D : List Nat} (h : Trio ba br bd B (fun _ => False) X S R D w) : Trio ba br bd B (fun _ => False) w S R D w :=
  ⟨h.mem, Keeps.refl _ _, fun _ e => e.elim, Nat.le_trans h.low h.keep.size⟩
/-- Nothing turns any more. -/
def Still (ba br bd B : Nat) (X : World) (S : ArS) (R : RSt) (D : List Nat) (V W : World) : Prop := Trio ba br bd B (fun _ => False) X S R D W ∧ Below V.heap.size V W
theorem Still.below {ba br bd B : Nat} {X V W W' : World} {S : ArS} {R : RSt} {D : List Nat} (h : Still ba br bd B X S R D V W) (hb : Below W.heap.size W W') : Still ba br bd B X S R D V W' := ⟨h.1.below hb, h.2.trans (hb.mono h.2.size)⟩
theorem new_sim (n : Nat) : Sim (newS n) (newR n) := ⟨rfl, rfl, rfl, rfl⟩
theorem new_inv (n : Nat) : Inv (newS n) := by
  refine ⟨fun t i hi => ?_, fun t i x hx => ?_, fun t i x hx => ?_⟩
  · rw [newS_add] at hi; cases hi
  · have := hx.1; rw [newS_at] at this; cases this
  · have := hx.1; rw [newS_at] at this; cases this
theorem sq_good {S : ArS} (ok : ArOk S) (hg : ∀ i x, atL S.L i = some x → GoodE x) : ∀ p ∈ squaresA S, GoodSq p := by
  intro p hp
  unfold squaresA sqTo at hp
  rw [List.mem_flatMap] at hp
  obtain ⟨i, hi, hp⟩ := hp
  rw [List.mem_range'_1] at hi
  unfold sqAt at hp
  cases hx : atL S.L i with
  | none => rw [hx] at hp; cases hp
  | some x =>
    rw [hx] at hp
    simp only at hp
    split at hp
    · obtain rfl : p = (i, x) := by simpa using hp
      have h1 := hg i x hx
      have h2 := ok.long
      have h3 := ok.room
      exact ⟨by unfold I64; simp only; omega, h1.2.1, ⟨h1.1.2.1, h1.1.2.2.1, h1.1.2.2.2.1, h1.1.2.2.2.2⟩, ok.mask i x hx⟩
    · cases hp
set_option maxRecDepth 100000 in
set_option maxHeartbeats 8000000 in
theorem law_arena (room : Int) (ks : List MoveD) (hg : ∀ k ∈ ks, GoodMove k) (a : Option Addr) (cap : Nat) (w : World) (hs : Sl w 6 48 a ks.length cap (ks.flatMap encMove)) :
    Calls Try.prog 9 #[.int .i64 room, .slice a ks.length cap] w fun e w' => e = .returned (.bool true) ∧ Below w.heap.size w w' := by
  by_cases hn : room < 0 ∨ 200000 < room
  · have G1 := Lib.hid (fun w => arenaNew_bad room hn w)
    have G2 := Lib.hid (fun w => storeNew_bad room hn w)
    clear hn
    go_enter Try.func9, Try.ntmps9
    go_wp2_with fail
    refine (G1.out _).mono ?_
    rintro e w1 ⟨rfl, hw1⟩
    rw [hw1]
    clear hw1 w1
    go_wp2_with fail
    refine (G2.out _).mono ?_
    rintro e w1 ⟨rfl, hw1⟩
    rw [hw1]
    clear hw1 w1
    go_wp2_with fail
    go_ret
    exact ⟨rfl, Below.refl _ _⟩
  · obtain ⟨n0, rfl⟩ := Int.eq_ofNat_of_zero_le (show 0 ≤ room by omega)
    have hn0 : n0 ≤ 200000 := by omega
    have G1 := Lib.hid (arenaNew_any n0 w hn0)
    have G2 := Lib.hid (fun w => storeNew_any n0 w hn0)
    have hwide := hs.wide
    obtain ⟨p, hp⟩ : ∃ p, p = ks.length := ⟨_, rfl⟩
    rw [← hp] at hs hwide ⊢
    have HP := Lib.hid hp
    have HS := Lib.hid hs
    have HG := Lib.hid hg
    clear hn hp hs hg
    go_enter Try.func9, Try.ntmps9
    go_wp2_with fail
    refine G1.out.mono ?_
    rintro e w1 ⟨arr, rfl, hb1, h0, h1, h2, hsz, ha⟩
    have HI1 := Lib.hid (new_isAr hn0 h0 h1 h2 hsz ha)
    have HB1 := Lib.hid hb1
    have HZ1 := Lib.hid (show w.heap.size + 2 < w1.heap.size from lt_of_block h2)
    clear hb1 h0 h1 h2 hsz ha
    go_wp2_with fail
    refine (G2.out _).mono ?_
    rintro e w2 ⟨rfl, hb2, hre⟩
    obtain ⟨w3, hw3⟩ : ∃ w3, w3 = w2.alloc (.cells #[.slice none 0 0] 59) := ⟨_, rfl⟩
    have hb3 : Below w2.heap.size w2 w3 := by rw [hw3]; exact (Below.refl _ _).alloc (Nat.le_refl _) _
    have hid3 : w3.heap[w2.heap.size]? = some (.cells #[.slice none 0 0] 59 (0, 0)) := by rw [hw3]; exact blk_last w2 _ rfl
    have hz2 := hb2.size
    have hB13 : Below w1.heap.size w1 w3 := hb2.trans (hb3.mono hz2)
    have hB3 : Below w.heap.size w w3 := HB1.out.trans (hB13.mono HB1.out.size)
    have hz1 := HZ1.out
    have hT : Trio (w.heap.size + 2) w1.heap.size w2.heap.size w.heap.size (fun _ => False) w3 (newS n0) (newR n0) [] w3 := by
      refine ⟨⟨_, _, fun i => i = w2.heap.size, .slice none 0 0, HI1.out.keep (Keeps.of_below (F := fun _ => False) hB13) (fun _ _ h => h), hre.keep (Keeps.of_below (F := fun _ => False) hb3) (fun _ _ h => h), ⟨hid3, Row.nil _ _ _, rfl, (fun q hq => by cases hq), fun i hi => ?_⟩, fun i h1 h2 => ?_, fun i h1 h2 => ?_, fun i h1 h2 => ?_, fun i hi => ⟨?_, fun e => e⟩⟩, Keeps.refl _ _, fun _ e => e.elim, hB3.size⟩
      · have hi' : i = w2.heap.size := hi
        rw [hi']
        exact lt_of_block hid3
      · have h2' : i = w1.heap.size := h2
        have := h1.2
        omega
      · have h2' : i = w2.heap.size := h2
        have := h1.2
        omega
      · have h1' : i = w1.heap.size := h1
        have h2' : i = w2.heap.size := h2
        have := hre.lt w1.heap.size rfl
        omega
      · rcases hi with hi | hi | hi
        · exact hi.1
        · have hi' : i = w1.heap.size := hi
          omega
        · have hi' : i = w2.heap.size := hi
          omega
    have HT := Lib.hid hT
    have HB3 := Lib.hid hB3
    have HW3 := Lib.hid hw3
    clear hb2 hre hw3 hb3 hid3 hz2 hB13 hB3 hz1 hT
    go_upto_region 8 with fail
    rw [← HW3.out]
    obtain ⟨ba, hba⟩ : ∃ ba, ba = w.heap.size + 2 := ⟨_, rfl⟩
    obtain ⟨br, hbr⟩ : ∃ br, br = w1.heap.size := ⟨_, rfl⟩
    obtain ⟨bd, hbd⟩ : ∃ bd, bd = w2.heap.size := ⟨_, rfl⟩
    rw [← hba, ← hbr, ← hbd] at HT
    first | rw [← hba] | skip
    first | rw [← hbr] | skip
    first | rw [← hbd] | skip
    clear hba hbr hbd
    go_wp2_with fail
    go_loopw [10] (fun i wr => ∃ (k : Nat) (S : ArS) (R : RSt) (D : List Nat), i = .int .i64 k ∧ k ≤ p ∧ k ≤ 120 ∧ Aside (Sim S R ∧ Inv S ∧ (∀ d ∈ D, d ≤ 1000000) ∧ D.length ≤ k) ∧ Aside (Trio ba br bd w.heap.size (fun _ => False) w3 S R D wr)) (fun i _ => p - (intOf i).toNat)
    case atStart => exact ⟨0, newS n0, newR n0, [], rfl, Nat.zero_le _, by omega, ⟨new_sim n0, new_inv n0, (fun d hd => by cases hd), Nat.le_refl _⟩, HT.out⟩
    case round =>
      obtain ⟨k, S, R, D, rfl, hk, hk2, HF, HTR⟩ := hrel
      by_cases hlt : k < p ∧ k < 120
      · obtain ⟨hlt1, hlt2⟩ := hlt
        have hbl : Below w.heap.size w wr := HB3.out.trans HTR.out.down
        have hs := HS.out
        obtain ⟨g, o, rfl, hrow⟩ := hs.row (by omega)
        have hgl := hs.lt (by omega) (by omega)
        have hkl : k < ks.length := by have := HP.out; omega
        obtain ⟨d, hd⟩ : ∃ d, ks[k]? = some d := ⟨ks[k], List.getElem?_eq_getElem hkl⟩
        have hgd := HG.out d (List.mem_of_getElem? hd)
        have cl : ∀ j, j < 6 → wr.cell? ⟨g, o + k * 6 + j, none⟩ = (encMove d)[j]? := fun j hj => by
          obtain ⟨u, hu⟩ : ∃ u, (encMove d)[j]? = some u := ⟨_, List.getElem?_eq_getElem hj⟩
          rw [hu, Nat.add_assoc]
          exact (hbl.cell (p := ⟨g, o + (k * 6 + j), none⟩) hgl).trans (hrow _ _ ((flat_at (k := 6) (enc := encMove) (by omega) (fun _ => rfl) ks k j d hd hj).trans hu))
        have e0 := cl 0 (by omega)
        have e1 := cl 1 (by omega)
        have e2 := cl 2 (by omega)
        have e3 := cl 3 (by omega)
        have e4 := cl 4 (by omega)
        have e5 := cl 5 (by omega)
        obtain ⟨kd, tn, a0, a1, a2, a3⟩ := d
        simp only [encMove, Quad.cells, List.getElem?_cons_zero, List.getElem?_cons_succ, Nat.add_zero] at e0 e1 e2 e3 e4 e5
        have HM := Lib.hid (show Calls Try.prog 27 #[.pointer (some ⟨ba, 0, none⟩), .pointer (some ⟨br, 0, none⟩), .pointer (some ⟨bd, 0, none⟩), .agg #[.int .i64 kd, .int .i64 tn, .int .i64 a0, .int .i64 a1, .int .i64 a2, .int .i64 a3]] wr (MovedOk ba br bd w.heap.size D wr) from moved_any ba br bd w.heap.size S R D kd tn a0 a1 a2 a3 wr ⟨HTR.out.here, HF.out.1, HF.out.2.1, HF.out.2.2.1, by have := HF.out.2.2.2; omega, hgd.2.1, hgd.2.2.1, hgd.2.2.2.1, hgd.2.2.2.2.1, hgd.2.2.2.2.2⟩)
        have i1 : decide ((k : Int) < (p : Int)) = true := decide_eq_true (by omega)
        have i2 : decide ((k : Int) < 120) = true := decide_eq_true (by omega)
        have i3 : decide (k < p) = true := decide_eq_true hlt1
        have i4 : decide (k < 120) = true := decide_eq_true hlt2
        clear hs hrow hkl hd hgd cl hgl hbl
        go_wp2_with fail
        with_reducible refine Calls.mono HM.out ?_
        rintro e v1 ⟨rfl, S', R', D', g1, g2, g3, g4, g5⟩
        have HF2 : Aside (Sim S' R' ∧ Inv S' ∧ (∀ d ∈ D', d ≤ 1000000) ∧ D'.length ≤ k + 1) := ⟨g1, g2, g3, by have := HF.out.2.2.2; omega⟩
        have HT2 := Lib.hid (HTR.out.chain g5)
        clear g1 g2 g3 g4 g5
        go_wp2_with fail
        exact ⟨⟨k + 1, S', R', D', by go_num, hlt1, by omega, HF2, HT2.out⟩, by simp [intOf]; omega⟩
      · have i0 : (decide ((k : Int) < (p : Int)) = true ∧ decide ((k : Int) < 120) = false ∧ decide (k < p) = true ∧ decide (k < 120) = false) ∨ (decide ((k : Int) < (p : Int)) = false ∧ decide (k < p) = false) := by
          by_cases h : k < p
          · have h9 : ¬ k < 120 := fun e => hlt ⟨h, e⟩
            exact .inl ⟨decide_eq_true (by omega), decide_eq_false (by omega), decide_eq_true h, decide_eq_false h9⟩
          · exact .inr ⟨decide_eq_false (by omega), decide_eq_false h⟩
        clear hlt
        obtain ⟨n, hnS⟩ : ∃ n, n = liveL S.L := ⟨_, rfl⟩
        obtain ⟨l, hl⟩ : ∃ l, l = squaresA S := ⟨_, rfl⟩
        obtain ⟨G, ⟨arr, v1, vs, hRe⟩, -⟩ := HTR.out.re
        obtain ⟨va, vc, hv1, -⟩ := hRe.list.form
        have hlen : R.T.length = n := by rw [hnS]; exact HF.out.1.live
        have HLV := Lib.hid (show ∀ W, Still ba br bd w.heap.size w3 S R D wr W → Calls Try.prog 28 #[.pointer (some ⟨ba, 0, none⟩)] W fun e w' => e = .returned (.int .i64 (n : Nat)) ∧ Still ba br bd w.heap.size w3 S R D wr w' from fun W hW => by
          rw [hnS]
          obtain ⟨F, hF, -⟩ := hW.1.ar
          exact (alive_any ba S F W hF).mono fun e w' ⟨e1, e2⟩ => ⟨e1, by rw [e2]; exact hW⟩)
        have HSQ := Lib.hid (show ∀ W, Still ba br bd w.heap.size w3 S R D wr W → Calls Try.prog 30 #[.pointer (some ⟨ba, 0, none⟩)] W fun e w' => ∃ v, e = .returned v ∧ Still ba br bd w.heap.size w3 S R D wr w' ∧ Row w' 116 7 v l.length (l.flatMap encSq) from fun W hW => by
          rw [hl]
          obtain ⟨F, hF, -⟩ := hW.1.ar
          exact (squares_any ba S F W hF).mono fun e w' ⟨v, e1, e2, _, e4⟩ => ⟨v, e1, hW.below e4, e2⟩)
        have HSR := Lib.hid (show ∀ W u, Still ba br bd w.heap.size w3 S R D wr W → Row W 116 7 u l.length (l.flatMap encSq) → Calls Try.prog 31 #[.pointer (some ⟨br, 0, none⟩)] W fun e w' => ∃ v, e = .returned v ∧ Still ba br bd w.heap.size w3 S R D wr w' ∧ Row w' 116 7 v l.length (l.flatMap encSq) ∧ Row w' 116 7 u l.length (l.flatMap encSq) from fun W u hW hu => by
          have hsq := squares_same HTR.out.ok HF.out.1
          obtain ⟨G, ⟨arr, v1, vs, hRe⟩, -⟩ := hW.1.re
          have h9 := squaresR_any br R arr v1 vs G W hRe
          rw [hsq, ← hl] at h9
          exact h9.mono fun e w' ⟨v, e1, e2, _, e4⟩ => ⟨v, e1, hW.below e4, e2, hu.keep fun q hq => e4.block q (hu.lt q hq)⟩)
        have HSS := Lib.hid (show ∀ W u v, Still ba br bd w.heap.size w3 S R D wr W → Row W 116 7 v l.length (l.flatMap encSq) ∧ Row W 116 7 u l.length (l.flatMap encSq) → Calls Try.prog 29 #[u, v] W fun e w' => e = .returned (.bool true) ∧ Still ba br bd w.heap.size w3 S R D wr w' from fun W u v hW hh =>
          (sameSq_any l u v W hh.2 hh.1 (by rw [hl]; exact sq_good HTR.out.ok HTR.out.goodE)).mono fun e w' ⟨e1, e2⟩ => ⟨e1, hW.below e2⟩)
        have hc1 : wr.cell? ⟨br, 1, none⟩ = some (.slice va n vc) := by rw [← hlen]; exact (hRe.cell 1).trans (hRe.c1.trans (congrArg some hv1))
        have hbrl : br < wr.heap.size := lt_of_block hRe.own
        have HCELL := Lib.hid (show ∀ W, Still ba br bd w.heap.size w3 S R D wr W → W.cell? ⟨br, 1, none⟩ = some (.slice va n vc) from fun W hW => (hW.2.cell (p := ⟨br, 1, none⟩) hbrl).trans hc1)
        have hTD : Still ba br bd w.heap.size w3 S R D wr wr.drew := (show Still ba br bd w.heap.size w3 S R D wr wr from ⟨HTR.out, Below.refl _ _⟩).below (Below.refl _ _).drew
        have HB9 := Lib.hid (fun W (hW : Still ba br bd w.heap.size w3 S R D wr W) => show Below w.heap.size w W from HB3.out.trans hW.1.down)
        clear hnS hl hRe hv1 hlen hc1 hbrl
        rcases i0 with ⟨i1, i2, i3, i4⟩ | ⟨i1, i3⟩
        all_goals
          go_upto_region 13 with fail
          go_region_held3 (fun w' => w'.cell? ⟨br, 1, none⟩ = some (.slice va n vc)) (first | exact HCELL.out _ (by assumption)) ((first | (go_at_call 28; with_reducible refine Calls.mono (HLV.out _ (by assumption)) ?_; rintro e x1 ⟨rfl, k1⟩) | (go_at_call 30; with_reducible refine Calls.mono (HSQ.out _ (by assumption)) ?_; rintro e x2 ⟨u2, rfl, k2, r2⟩) | (go_at_call 31; with_reducible refine Calls.mono (HSR.out _ _ (by assumption) (by assumption)) ?_; rintro e x3 ⟨u3, rfl, k3, r3⟩) | (go_at_call 29; with_reducible refine Calls.mono (HSS.out _ _ _ (by assumption) (by assumption)) ?_; rintro e x4 ⟨rfl, k4⟩)))
          go_wp2_with fail
          go_ret
          exact ⟨rfl, HB9.out _ k4⟩
theorem arena_walk (W : World) (v0 v1 : Value) (h0 : Is_int W v0) (h1 : Is_moves W v1) :
    Calls Try.prog 9 #[v0, v1] W fun e w' => e = .returned (.bool true) ∧ Below W.heap.size W w' := by
  obtain ⟨n, rfl, -⟩ := h0
  obtain ⟨ks, ⟨a, cap, rfl, hs⟩, hg⟩ := h1
  exact law_arena n ks hg a cap W hs
section
open Go.ChangeShapes Go.WideShapes Go.ChangeAt
set_option maxRecDepth 100000 in
theorem lifted_arenaPlays (os : Os) (started : os.Started) (H : Type) (enc : TypeId × Value → H)
    (walk : ∀ (W : World) (v0 : Value) (v1 : Value), Is_int W v0 → Is_moves W v1 → Calls Try.prog 9 #[v0, v1] W fun e w' => e = .returned (.bool true) ∧ Below W.heap.size W w') :
    ReturnsInHanded {} Try.checked os 9 .any (Rows.arenaPlaysSpec.pre6 enc Try.prog Try.f9 Rows.arenaPlaysRow.domain false) (Rows.arenaPlaysSpec.post enc Try.prog Try.f9 false true false false) := by
  refine returnsInHanded_of_change_sized (C := Try.checked) own started (by kernel_rfl) Try.func9
    (ChangeSpec.witness6 (enc := enc) (C := Try.checked) false ⟨#[], #[.int .i64 0, .slice none 0 0], []⟩ 8 (by kernel_rfl) (by kernel_rfl) (by kernel_rfl) (by kernel_rfl)) ?_
  intro W base args ds gs before hval0 hW hcnd hsz0 _
  have hval : ∀ (j : Nat) t v, Try.f9.params[j]? = some t → args[j]? = some v → Value.okWide Try.prog W .any base t v := hval0
  have hW' := hW
  obtain ⟨p, q, hA0, hV, rfl, hfz, hnd⟩ := hW
  have hA : DataW.TrodAll enc Try.prog W 0 (fun _ => true) true Try.f9.params.toList args.toList ds p := hA0
  rw [Try.params9] at hA hval
  obtain ⟨rfl, rfl⟩ := trodVars_none hV
  have hB := hA
  obtain ⟨v0, vs0, d0, ds0, p0, q0, hargs, rfl, rfl, h0, r0⟩ := trodAll_cons hA
  obtain ⟨v1, vs1, d1, ds1, p1, q1, rfl, rfl, rfl, h1, r1⟩ := trodAll_cons r0
  obtain ⟨rfl, rfl, rfl⟩ := trodAll_nil r1
  obtain rfl : args = #[v0, v1] := by cases args; simp_all
  have hsz : (DataW.weightsEach Try.prog [3, 50] [d0, d1]).all (· ≤ reachBytes) = true := hsz0
  have i0 := open_int (hval 0 3 v0 rfl rfl) h0 (weights_le hsz 0 rfl rfl)
  have i1 := open_moves (hval 1 50 v1 rfl rfl) h1 (weights_le hsz 1 rfl rfl)
  refine (walk W v0 v1 i0 i1).mono fun e W' ⟨he, bel⟩ => ?_
  subst he
  exact ⟨_, rfl, _, _, _, [], _, [], hW', trodAll_mk1 (shut_bool Try.underlying4 _), trodAll_below laidOut (by kernel_rfl) hB bel, rfl, bel.frame _, fun h => by cases h⟩

theorem over_arenaPlays (walk : ∀ (W : World) (v0 : Value) (v1 : Value), Is_int W v0 → Is_moves W v1 → Calls Try.prog 9 #[v0, v1] W fun e w' => e = .returned (.bool true) ∧ Below W.heap.size W w') :
    Rows.arenaPlaysRow.holds Try.pinned (OpenSpec.ofChange Rows.arenaPlaysSpec) :=
  OpenClaim.holds_of_wide 9 Try.f9 rfl rfl rfl rfl rfl rfl rfl ⟨rfl, rfl, rfl, rfl, rfl⟩ rfl rfl rfl rfl rfl (by kernel_rfl) Try.func9 (by kernel_rfl)
    (of_decide_eq_true (by kernel_rfl)) (by unfold Func.isWrapper; first | (rw [if_pos (by decide +kernel)]; kernel_rfl) | (rw [if_neg (by decide +kernel)]; exact ⟨rfl, rfl⟩))
    (fun os started H enc _ => lifted_arenaPlays os started H enc walk)
end
theorem arenaPlays_proved : Rows.ArenaPlaysSaid := over_arenaPlays arena_walk
end Go.Proofs.Ytdmamecfmfhlmaa
