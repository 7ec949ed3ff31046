/-
  For all deeds of up to five tenants, the house's log is the document's, wherever the listed powers of ten read as they are listed.
-/
import Derived.Stop.LaidErr
import Derived.Test.YtabhpbkkjijfjaaGreatDoorZHouseLogsLogDuo
import Derived.Test.YtabhpbkkjijfjaaGreatDoorZHouseLogs44
import Derived.Test.YtabhpbkkjijfjaaGreatDoorZHouseLogs51
namespace Go.Proofs.YtabhpbkkjijfjaaGreatDoor
set_option maxRecDepth 100000
open Go.RowKit

set_option maxRecDepth 100000 in
set_option maxHeartbeats 16000000 in
theorem law_houseLogs (n0 : Int) (ks : List DeedD) (a : Option Addr) (cap : Nat) (w : World) (hs : Sl w 4 40 a ks.length cap (ks.flatMap encDeed)) (hT : Tab w.heap.size w) :
    Calls Tryz.prog 3 #[.int .i64 n0, .slice a ks.length cap] w fun e w' => e = .returned (.bool true) ∧ Below w.heap.size w w' := by
  obtain ⟨N, hN, h1, h5⟩ := num_five n0
  have hmk := fun W => make_ints N (by omega) W
  have hmk2 := fun W => make_lists N (by omega) W
  have HT := Lib.hid hT
  have hwide := hs.wide
  obtain ⟨p, hp⟩ : ∃ p, p = ks.length := ⟨_, rfl⟩
  rw [← hp] at hs hwide ⊢
  have HS := Lib.hid hs
  have HP := Lib.hid hp
  have HN := Lib.hid hN
  have H15 := Lib.hid (And.intro h1 h5)
  clear hs hp hT hN
  go_enter Tryz.func3, Tryz.ntmps3
  go_upto_region 2 with fail
  rw [HN.out]
  go_upto_region 3 with fail
  obtain ⟨W2, hW2⟩ : ∃ W, W = (w.alloc (.cells (zerosI N) 3)).alloc (.cells #[.int .i64 1000, .slice (some ⟨w.heap.size, 0, none⟩) N N] 25) := ⟨_, rfl⟩
  rw [← hW2]
  have z2 : W2.heap.size = w.heap.size + 2 := by rw [hW2]; simp
  have b2 : Below w.heap.size w W2 := by rw [hW2]; exact ((Below.refl _ _).alloc (Nat.le_refl _) _).alloc (by simp) _
  have hg2 : W2.heap[w.heap.size]? = some (.cells (zerosI N) 3 (0, 0)) := by rw [hW2]; exact blk_alloc (blk_last w _ rfl) _
  have hc2 : W2.heap[w.heap.size + 1]? = some (.cells #[.int .i64 1000, .slice (some ⟨w.heap.size, 0, none⟩) N N] 25 (0, 0)) := by rw [hW2]; exact blk_last _ _ (by simp)
  have hcf : ∀ W : World, W.heap[w.heap.size + 1]? = W2.heap[w.heap.size + 1]? → W.cell? ⟨w.heap.size + 1, 0, none⟩ = some (.int .i64 1000) ∧ W.cell? ⟨w.heap.size + 1, 1, none⟩ = some (.slice (some ⟨w.heap.size, 0, none⟩) N N) := fun W hW => ⟨Joins.cell_of_block (hW.trans hc2) 0, Joins.cell_of_block (hW.trans hc2) 1⟩
  have HC0 := Lib.hid (hcf W2.drew rfl)
  have HC1 := Lib.hid (hcf (W2.drew.alloc (.cells (zerosI N) 3)) (Below.heap_alloc W2.drew _ _ (show w.heap.size + 1 < W2.heap.size by omega)))
  have hBT := house_boot (X := W2.drew.alloc (.cells (zerosI N) 3)) (g := w.heap.size) (gd := W2.heap.size) h1 h5 ((Below.heap_alloc W2.drew _ _ (show w.heap.size < W2.heap.size by omega)).trans hg2) (blk_last W2.drew _ rfl)
  have HBT := Lib.hid hBT
  have HBT2 := Lib.hid (show Calls Tryz.prog 4 #[.agg #[.int .i64 1000, .slice (some ⟨w.heap.size, 0, none⟩) N N], .slice (some ⟨W2.heap.size, 0, none⟩) N N] (W2.alloc (.cells (zerosI N) 3)).drew _ from hBT)
  have HC2 := Lib.hid (show ((W2.alloc (.cells (zerosI N) 3)).drew.cell? ⟨w.heap.size + 1, 0, none⟩ = some (.int .i64 1000) ∧ (W2.alloc (.cells (zerosI N) 3)).drew.cell? ⟨w.heap.size + 1, 1, none⟩ = some (.slice (some ⟨w.heap.size, 0, none⟩) N N)) from HC1.out)
  have HCF := Lib.hid hcf
  have HW2 := Lib.hid (And.intro z2 (And.intro b2 (show (W2.drew.alloc (.cells (zerosI N) 3)).heap.size = w.heap.size + 3 from by show (W2.heap.push _).size = _; rw [Array.size_push]; omega)))
  clear hW2 z2 b2 hg2 hc2 hcf hBT
  go_cut [6, 7] from 28 to 34 (fun s6 s7 wx => ∃ b, s6 = ptrV b ∧ s7 = .int .i64 0 ∧ Aside (∃ F, IsHouse b (newHouse N) wx F ∧ (∀ i, F i → w.heap.size ≤ i) ∧ Below w.heap.size w wx))
  case first =>
    go_region_held3 (fun w' => w'.cell? ⟨w.heap.size + 1, 0, none⟩ = some (.int .i64 1000) ∧ w'.cell? ⟨w.heap.size + 1, 1, none⟩ = some (.slice (some ⟨w.heap.size, 0, none⟩) N N)) (first | exact HC3.out | exact HC0.out | exact HC1.out | exact HC2.out) ((go_at_call 4; (first | (with_reducible refine HBT.out.mono ?_) | (with_reducible refine HBT2.out.mono ?_)); rintro e w3 ⟨b, F, rfl, q1, q2, q3⟩; have HIS := Lib.hid (show ∃ F, IsHouse b (newHouse N) w3 F ∧ (∀ i, F i → w.heap.size ≤ i) ∧ Below w.heap.size w w3 from ⟨F, q1, fun i hi => by have e1 := q2 i hi; rw [HW2.out.2.2] at e1; omega, (HW2.out.2.1.trans (((Below.refl w.heap.size W2).drew).alloc (by show w.heap.size ≤ W2.heap.size; rw [HW2.out.1]; omega) _)).trans (q3.mono (by rw [HW2.out.2.2]; omega))⟩); have HC3 := Lib.hid (HCF.out w3 ((q3.block _ (by rw [HW2.out.2.2]; omega)).trans (Below.heap_alloc W2.drew _ _ (show w.heap.size + 1 < W2.heap.size by rw [HW2.out.1]; omega)))); clear q1 q2 q3))
    all_goals go_wp2_with fail
    all_goals go_meet
    all_goals exact ⟨_, rfl, rfl, HIS.out⟩
  case rest =>
    obtain ⟨bh, rfl, rfl, hh⟩ := hcut
    obtain ⟨W3, hW3⟩ : ∃ V, V = wc := ⟨_, rfl⟩
    rw [← hW3] at hh ⊢
    obtain ⟨F1, g1, g2, g3⟩ := hh.out
    have HH := Lib.hid (And.intro g1 (And.intro g2 g3))
    have HNQ := Lib.hid (show Calls Tryz.prog 5 #[.int .i64 (N : Int)] W3 fun e w' => ∃ b F, e = .returned (.tuple #[.pointer (some ⟨b, 0, none⟩), .int .i64 0]) ∧ IsQueue b ⟨N, 0, []⟩ 0 w' F ∧ (∀ i, F i → W3.heap.size ≤ i) ∧ Below W3.heap.size W3 w' from (newQueue_any N W3).mono fun e w' h => by
      unfold NewQueue at h
      rwa [if_neg (by omega), Int.toNat_natCast] at h)
    clear hh hW3 g1 g2 g3 HC0 HC1 HC2 HCF HBT HBT2
    unfold ptrV
    go_wp2_with fail
    with_reducible refine HNQ.out.mono ?_
    rintro e W4 ⟨bq, G, rfl, q1, q2, q3⟩
    have HQ := Lib.hid (And.intro q1 (And.intro q2 q3))
    clear q1 q2 q3
    go_upto_region 10 with fail
    obtain ⟨X, hX⟩ : ∃ X, X = ((W4.alloc (.cells #[.pointer (some ⟨bq, 0, none⟩)] 30)).alloc (.cells (nilsS N) 34)).alloc (.cells #[.slice (some ⟨W4.heap.size + 1, 0, none⟩) N N] 33) := ⟨_, rfl⟩
    rw [← hX]
    have hst := log_start HH.out.1 HH.out.2.1 HH.out.2.2 HQ.out.1 HQ.out.2.1 HQ.out.2.2 hX
    obtain ⟨qb, hqb⟩ : ∃ x, x = W4.heap.size := ⟨_, rfl⟩
    obtain ⟨cb, hcb⟩ : ∃ x, x = W4.heap.size + 1 + 1 := ⟨_, rfl⟩
    rw [← hqb] at hcb
    rw [← hqb, ← hcb] at hst ⊢
    have HST := Lib.hid hst
    clear hst hX hqb hcb
    go_upto_region 11 with fail
    go_loopw [10, 11, 14, 15, 16, 17, 18, 19, 97, 115] (fun want clk iv _ _ _ _ _ _ _ ws => ∃ (j c : Nat) (L : List UInt8), iv = .int .i64 j ∧ clk = .int .i64 c ∧ want = .string (txt L) ∧ j ≤ p ∧ j ≤ 60 ∧ L.length ≤ 1000 * j ∧ Aside (∃ H q C, H.log = L ∧ LogInv N j H q C c ∧ LogAt w bh bq qb cb H q C ws)) (fun _ _ iv _ _ _ _ _ _ _ _ => p - (intOf iv).toNat)
    case atStart =>
      have HI := Lib.hid (LogInv.start N (by have := H15.out.1; omega))
      exact ⟨0, 0, [], rfl, rfl, rfl, Nat.zero_le _, by omega, Nat.le_refl _, ⟨_, _, _, rfl, HI.out, HST.out⟩⟩
    case round =>
      obtain ⟨j, c, L, rfl, rfl, rfl, hjp, hj60, hL, hq⟩ := hrel
      obtain ⟨H, q, C, hHL, hI, hA⟩ := hq.out
      have HI := Lib.hid hI
      have HA := Lib.hid hA
      have HHL := Lib.hid hHL
      clear hq hHL hI hA
      by_cases hlt : j < p ∧ j < 60
      · obtain ⟨hlt1, hlt2⟩ := hlt
        obtain ⟨g, o, rfl, hrow⟩ := HS.out.row (by omega)
        have hgl := HS.out.lt (by omega) (by omega)
        have hjl : j < ks.length := by have := HP.out; omega
        obtain ⟨d, hd⟩ : ∃ d, ks[j]? = some d := ⟨ks[j], List.getElem?_eq_getElem hjl⟩
        have g0 := hrow _ _ (flat_at (k := 4) (enc := encDeed) (by omega) (fun _ => rfl) ks j 0 d hd (by omega))
        have g1 := hrow _ _ (flat_at (k := 4) (enc := encDeed) (by omega) (fun _ => rfl) ks j 1 d hd (by omega))
        have hB := HA.out.low
        have e0 : wr.cell? ⟨g, o + j * 4, none⟩ = some (.int .i64 d.kind) := by rw [hB.cell hgl]; rw [Nat.add_zero] at g0; exact g0
        have e1 : wr.cell? ⟨g, o + j * 4 + 1, none⟩ = some (.int .i64 d.tenant) := by rw [hB.cell hgl]; rw [← Nat.add_assoc] at g1; exact g1
        obtain ⟨kd, tn, dn, db⟩ := d
        dsimp only at e0 e1
        obtain ⟨t, ht, htN⟩ := num_mod tn H15.out.1 H15.out.2
        have HTN := Lib.hid ht
        have i1 : (j : Int) < (p : Int) := by omega
        have i2 : (j : Int) < 60 := by omega
        have i3 : (0 : Int) ≤ (j : Int) := by omega
        have i4 : ((N : Int) == 0) = false := by simp; omega
        have i5 : (N : Int) ≠ 0 := by omega
        clear g0 g1 hB hrow hgl hjl hd ht
        go_upto_region 14 with fail
        rw [HTN.out]
        by_cases k1 : kd = 1
        · subst k1
          have htl : t < H.ports.length := by rw [HI.out.hn]; exact htN
          obtain ⟨pt, hpt⟩ : ∃ x, H.ports[t]? = some x := ⟨_, List.getElem?_eq_getElem htl⟩
          obtain ⟨hk0, hct, hto⟩ := HI.out.port t pt hpt
          obtain ⟨hcl, hcq⟩ := HI.out.come t _ hct
          obtain ⟨H1, hH1⟩ : ∃ x, x = (⟨H.ports.set t ⟨txt [], (shiftF (pt.come ++ [questT]) H.turns t).1, pt.told⟩, (shiftF (pt.come ++ [questT]) H.turns t).2, H.log, H.clock⟩ : HouseS) := ⟨_, rfl⟩
          have hfd := HA.out.feed hpt hk0 (by omega)
          rw [← hH1] at hfd
          have HFD := Lib.hid (show Calls Tryz.prog 8 #[.pointer (some ⟨bh, 0, none⟩), .int .i64 t, .string ⟨#[63, 10]⟩] wr _ from hfd)
          have hnx := HI.out.shifted (by omega) htN HI.out.sim HI.out.ht ⟨Nat.le_refl _, HI.out.wait.2⟩ (l := pt.come ++ [questT]) ⟨by rw [List.length_append]; simp; omega, fun x hx => by
            rcases List.mem_append.1 hx with hx | hx
            · exact hcq x hx
            · simp at hx; exact hx⟩ (told := pt.told) (by omega)
          rw [← hH1] at hnx
          have HNX := Lib.hid hnx
          have HPT := Lib.hid (And.intro hct (And.intro hcl (show H1.log = L from by rw [hH1]; exact HHL.out)))
          clear htl hpt hk0 hct hto hcl hcq hH1 hfd hnx
          go_wp2_with fail
          with_reducible refine HFD.out.mono ?_
          rintro e W5 ⟨rfl, hA5⟩
          obtain ⟨g2, pp, c2, a2, hput⟩ := hA5.puts HPT.out.1 questT
          have hbx := hput.box
          rw [HI.out.hC] at hbx
          have hcl2 := hput.cell
          have hfz2 := hput.fz
          have HPU := Lib.hid hput
          have HBX := Lib.hid hbx
          have HPL := Lib.hid (show pp ≤ 100 from by have := hput.len; have := HPT.out.2.1; omega)
          obtain ⟨i0, hi, hz0, hz1, hz2⟩ := info_parts infoStr
          have i6 : (0 : Int) ≤ (t : Int) := by omega
          have i7 : (t : Int) < (N : Int) := by omega
          have hppl : pp ≤ 100 := HPL.out
          have y3 : (W5.alloc (.cells #[.string ⟨#[63]⟩] 9)).cell? ⟨g2, t, none⟩ = some (.slice a2 pp c2) := (World.cell?_of_block (Below.heap_alloc W5 _ g2 hput.gl)).trans hput.cell
          have y4 : (W5.alloc (.cells #[.string ⟨#[63]⟩] 9)).cell? ⟨cb, 0, none⟩ = some (.slice (some ⟨g2, 0, none⟩) N N) := (World.cell?_of_block (Below.heap_alloc W5 _ cb hput.bl)).trans hbx
          clear hput hA5
          go_upto_region 26 with fail
          go_cut [] from 103 to 111 (fun wx => Aside (LogAt w bh bq qb cb H1 q (C.set t (pt.come ++ [questT])) wx))
          case first =>
            go_region_law ((refine step_append_row _ rfl (.tmp 108) (.tmp 109) 34 rfl 9 i0 _ 1 16 Tryz.underlying34 hi hz0 hz1 hz2 rfl (by omega) (.slice a2 pp c2) pp (pt.come.map strV) rfl (HPU.out.row _) ⟨W5.heap.size, 0, none⟩ 1 1 [.string ⟨#[63]⟩] rfl rfl (news_alloc W5.drew _ _ rfl) (by simp [Value.oneCell']) (by omega) (by unfold maxLen; omega) (by omega) _ rfl ?_; intro b6 off6 cap6 w6 hrow6 hg6 hat6; have y1 : w6.cell? ⟨g2, t, none⟩ = some (.slice a2 pp c2) := (hg6.cell_far (a := ⟨g2, t, none⟩) (by have := HPU.out.gl; simp; omega) HPU.out.ne).trans ((World.cell?_of_block (Below.heap_alloc W5.drew _ g2 HPU.out.gl)).trans HPU.out.cell); have y2 : w6.frozen? ⟨g2, t, none⟩ = false := (hg6.frozen_far (a := ⟨g2, t, none⟩) (by have := HPU.out.gl; simp; omega) HPU.out.ne).trans ((World.frozen?_of_block (Below.heap_alloc W5.drew _ g2 HPU.out.gl)).trans HPU.out.fz); have y5 : w6.cell? ⟨cb, 0, none⟩ = some (.slice (some ⟨g2, 0, none⟩) N N) := (hg6.cell_far (a := ⟨cb, 0, none⟩) (by have := HPU.out.bl; simp; omega) HPU.out.bne).trans ((World.cell?_of_block (Below.heap_alloc W5.drew _ cb HPU.out.bl)).trans HBX.out)))
            all_goals go_wp2_with fail
            all_goals go_meet
            all_goals exact HPU.out.put _ _ _ _ _ hrow6 hg6 hat6
          case rest =>
          have HA6 := Lib.hid hcut.out
          have hct6 : (C.set t (pt.come ++ [questT]))[t]? = some (pt.come ++ [questT]) := getElem?_set_some (by rw [HI.out.hC]; exact htN)
          have hsh := HA6.out.shift hct6 (by have e1 := HI.out.wait.1; have e2 := HPT.out.2.1; rw [List.length_append]; simp; omega) (by rw [List.length_set, HI.out.hC]; omega)
          rw [List.set_set] at hsh
          unfold ptrV at hsh
          have HSH := Lib.hid hsh
          clear hct6 hsh y3 y4 hcut hbx hcl2 hfz2
          go_wp2_with fail
          with_reducible refine HSH.out.mono ?_
          rintro e W7 ⟨rfl, hA7⟩
          have HA7 := Lib.hid hA7
          clear hA7
          go_wp2_with fail
          exact ⟨⟨j + 1, c, L, by go_num, rfl, rfl, by omega, by omega, by omega, ⟨H1, _, _, HPT.out.2.2, HNX.out, HA7.out⟩⟩, by simp [intOf]; omega⟩
        · by_cases k2 : kd = 2
          · subst k2
            obtain ⟨⟨⟨u, x, ok⟩, q'⟩, hqp⟩ : ∃ s, s = queuePop q := ⟨_, rfl⟩
            obtain ⟨s1, s2⟩ := sim_pop HI.out.sim
            obtain ⟨⟨r', st'⟩, htp⟩ : ∃ s, s = turnPop H.turns := ⟨_, rfl⟩
            rw [← htp, ← hqp] at s1 s2
            have hr : r' = (u, x, ok) := s1
            subst hr
            have hpl := HA.out.pop (by have := HI.out.wait.1; omega)
            rw [← hqp] at hpl
            unfold ptrV at hpl
            have hqs := queuePop_small (fun x => x = txt [63]) q HI.out.wait.2
            rw [← hqp] at hqs
            have hbx := HA.out.qbox
            unfold ptrV at hbx
            have HPL := Lib.hid hpl
            have HQS := Lib.hid hqs
            have HTP := Lib.hid (show turnPop H.turns = ((u, x, ok), st') from htp.symm)
            have HSM := Lib.hid (show TurnSim st' q' from s2)
            clear s1 s2 hqp htp hpl hqs
            cases ok with
            | true =>
              obtain ⟨k, rfl, hkn, hxm, hn'⟩ := turnPop_some (by have := HI.out.ht; have := H15.out.1; omega) HTP.out
              have hxq : x = questT := by
                rw [HI.out.sim.own k hkn] at hxm
                obtain ⟨y, hy, rfl⟩ := qOf_mem hxm
                exact HI.out.wait.2 y hy
              have hkN : k < N := by rw [← HI.out.ht]; exact hkn
              have hkl : k < H.ports.length := by rw [HI.out.hn]; exact hkN
              obtain ⟨pk, hpk⟩ : ∃ x, H.ports[k]? = some x := ⟨_, List.getElem?_eq_getElem hkl⟩
              obtain ⟨hk0, hct, hto⟩ := HI.out.port k pk hpk
              obtain ⟨hcl, hcq⟩ := HI.out.come k _ hct
              have hn2 : st'.n = N := hn'.trans HI.out.ht
              obtain ⟨H2, hH2⟩ : ∃ x, x = (⟨H.ports.set k ⟨txt [], (shiftF pk.come st' k).1, pk.told ++ wrapF sayT⟩, (shiftF pk.come st' k).2, H.log, H.clock⟩ : HouseS) := ⟨_, rfl⟩
              have hwl : (wrapF sayT).length ≤ 500 := by have e1 := wrapF_length sayT; have e2 : sayT.length = 4 := rfl; omega
              have hnx := HI.out.shifted (by omega) hkN HSM.out hn2 ⟨HQS.out.1, HQS.out.2.1⟩ (l := pk.come) ⟨by omega, hcq⟩ (told := pk.told ++ wrapF sayT) (by rw [List.length_append]; omega)
              rw [← hH2] at hnx
              have HNX := Lib.hid (And.intro hnx (show H2.log = L from by rw [hH2]; exact HHL.out))
              have HSH := Lib.hid (show ∀ W, LogAt w bh bq qb cb H q' C W → Calls Tryz.prog 6 #[.int .i64 k, .pointer (some ⟨cb, 0, none⟩), .pointer (some ⟨qb, 0, none⟩)] W fun e W' => e = .returned (.tuple #[]) ∧ LogAt w bh bq qb cb H (shiftQ pk.come q' k).2 (C.set k (shiftQ pk.come q' k).1) W' from fun W hW => hW.shift hct (by have e1 := HI.out.wait.1; have e2 := HQS.out.1; dsimp only at e2; omega) (by rw [HI.out.hC]; omega))
              have HTN := Lib.hid (show ∀ W, LogAt w bh bq qb cb H (shiftQ pk.come q' k).2 (C.set k (shiftQ pk.come q' k).1) W → Calls Tryz.prog 10 #[.pointer (some ⟨bh, 0, none⟩)] W fun e W' => e = .returned (.bool true) ∧ LogAt w bh bq qb cb H2 (shiftQ pk.come q' k).2 (C.set k (shiftQ pk.come q' k).1) W' from fun W hW => by
                have h := hW.turn HT.out (by rw [← hxq]; exact HTP.out) hpk (by rw [hn2, HI.out.hn]) (by omega)
                rw [hk0, ← hH2] at h
                exact h)
              clear hkn hxm hn' hxq hkN hkl hpk hk0 hct hto hcl hcq hn2 hH2 hwl hnx
              go_wp2_with fail
              with_reducible refine HPL.out.mono ?_
              rintro e W5 ⟨rfl, hA5⟩
              have HA5 := Lib.hid (HSH.out W5 hA5)
              clear hA5 hbx
              go_wp2_with fail
              with_reducible refine HA5.out.mono ?_
              rintro e W6 ⟨rfl, hA6⟩
              have HA6 := Lib.hid (HTN.out W6 hA6)
              clear hA6
              go_wp2_with fail
              with_reducible refine HA6.out.mono ?_
              rintro e W7 ⟨rfl, hA7⟩
              have HA7 := Lib.hid hA7
              clear hA7
              go_wp2_with fail
              exact ⟨⟨j + 1, c, L, by go_num, rfl, rfl, by omega, by omega, by omega, ⟨H2, _, _, HNX.out.2, HNX.out.1, HA7.out⟩⟩, by simp [intOf]; omega⟩
            | false =>
              have hst := turnPop_none HTP.out
              have hn2 : st'.n = N := by rw [hst]; exact HI.out.ht
              have hnx := HI.out.idle HSM.out hn2 ⟨HQS.out.1, HQS.out.2.1⟩
              have HNX := Lib.hid hnx
              have HTN := Lib.hid (show ∀ W, LogAt w bh bq qb cb H q' C W → Calls Tryz.prog 10 #[.pointer (some ⟨bh, 0, none⟩)] W fun e W' => e = .returned (.bool false) ∧ LogAt w bh bq qb cb ⟨H.ports, st', H.log, H.clock⟩ q' C W' from fun W hW => hW.idle HTP.out (by rw [hn2, HI.out.hn]))
              clear hst hn2 hnx
              go_wp2_with fail
              with_reducible refine HPL.out.mono ?_
              rintro e W5 ⟨rfl, hA5⟩
              have HA5 := Lib.hid (HTN.out W5 hA5)
              clear hA5 hbx
              go_wp2_with fail
              with_reducible refine HA5.out.mono ?_
              rintro e W7 ⟨rfl, hA7⟩
              have HA7 := Lib.hid hA7
              clear hA7
              go_wp2_with fail
              exact ⟨⟨j + 1, c, L, by go_num, rfl, rfl, by omega, by omega, by omega, ⟨⟨H.ports, st', H.log, H.clock⟩, _, _, HHL.out, HNX.out, HA7.out⟩⟩, by simp [intOf]; omega⟩
          · have v1 : (kd == 1) = false := by simpa using k1
            have v2 : (kd == 2) = false := by simpa using k2
            obtain ⟨D, hD⟩ : ∃ x, x = Lib.decDigits (c + 1) := ⟨_, rfl⟩
            have hcj := HI.out.clock.2
            have hDl : D.length ≤ 64 := by rw [hD]; exact decD_len (by omega)
            obtain ⟨H1, hH1⟩ : ∃ x, x = (⟨H.ports, H.turns, H.log ++ (D ++ (waitL H.turns H.ports.length ++ [10])), H.clock + 1⟩ : HouseS) := ⟨_, rfl⟩
            have htk := HA.out.tick HT.out HI.out.clock.1 (by omega) (by rw [HHL.out]; omega)
            rw [← hD, ← hH1] at htk
            unfold ptrV at htk
            have hti := HI.out.ticked (H.log ++ (D ++ (waitL H.turns H.ports.length ++ [10])))
            rw [← hH1] at hti
            have HTK := Lib.hid htk
            have HTI := Lib.hid hti
            have HNB := Lib.hid (fun W => (by rw [hD]; exact refNumber_any (c + 1) W (by omega) : Calls Tryz.prog 12 #[.int .i64 ((c + 1 : Nat) : Int)] W fun e w' => e = .returned (.string (txt D)) ∧ Below W.heap.size W w'))
            have HH1 := Lib.hid (show H1.turns = H.turns ∧ H1.log = L ++ D ++ waitL H.turns N ++ [10] from by rw [hH1]; exact ⟨rfl, by show H.log ++ _ = _; rw [HHL.out, HI.out.hn]; simp [List.append_assoc]⟩)
            obtain ⟨c1, hc1⟩ : ∃ x, x = c + 1 := ⟨_, rfl⟩
            rw [← hc1] at HTI HNB
            have hsc : (c : Int) + 1 = (c1 : Int) := by omega
            have hwc : wrap64 (c1 : Int) = (c1 : Int) := wrap64_small (by omega) (by omega)
            obtain ⟨S0, hS0⟩ : ∃ x, x = txt L := ⟨_, rfl⟩
            obtain ⟨TD, hTD⟩ : ∃ x, x = txt D := ⟨_, rfl⟩
            obtain ⟨S1, hS1⟩ : ∃ x, x = txt (L ++ D) := ⟨_, rfl⟩
            have hadd : S0 ++ TD = S1 := by rw [hS0, hTD, hS1, txt_add]
            have hz0 : S0.size ≤ 1000000 := by rw [hS0, txt_size]; omega
            have hz1 : TD.size ≤ 1000000 := by rw [hTD, txt_size]; omega
            rw [← hTD] at HNB
            rw [← hS0]
            have HS1 := Lib.hid (And.intro hS1 hDl)
            have HCJ := Lib.hid hcj
            clear hD hcj hDl hH1 htk hti hc1 hS0 hTD hS1 k1 k2
            go_wp2_with fail
            with_reducible refine HTK.out.mono ?_
            rintro e W5 ⟨rfl, hA5⟩
            have HA5 := Lib.hid hA5
            clear hA5
            go_wp2_with fail
            with_reducible refine (HNB.out _).mono ?_
            rintro e W6 ⟨rfl, hb6⟩
            have HA6 := Lib.hid (HA5.out.below hb6)
            clear hb6
            go_upto_region 19 with fail
            go_loopw [10, 19] (fun want kv ws => ∃ (k : Nat) (M : List UInt8), want = .string (txt M) ∧ kv = .int .i64 k ∧ k ≤ N ∧ Aside (M = L ++ D ++ waitL H.turns k ∧ LogAt w bh bq qb cb H1 q C ws)) (fun _ kv _ => N - (intOf kv).toNat)
            case atStart => exact ⟨0, L ++ D, by rw [HS1.out.1], rfl, Nat.zero_le _, ⟨by rw [waitL, List.append_nil], HA6.out⟩⟩
            case round =>
              obtain ⟨k, M, rfl, rfl, hkN, hq2⟩ := hrel
              obtain ⟨hM, hA⟩ := hq2.out
              have hwl := hA.wl
              rw [HH1.out.1] at hwl
              have hMl : M.length ≤ 1000 * j + 64 + 65 * 5 := by
                have e1 := hwl.1 k
                have e2 := HS1.out.2
                have e3 := H15.out.2
                rw [hM, List.length_append, List.length_append]
                have : 65 * k ≤ 65 * 5 := Nat.mul_le_mul_left _ (by omega)
                omega
              have HM := Lib.hid (And.intro hM hMl)
              have HA2 := Lib.hid hA
              clear hq2 hM
              by_cases hkn : k < N
              · obtain ⟨x, hx⟩ : ∃ x, x = (turnWaits H.turns (k : Int)).toNat := ⟨_, rfl⟩
                have hw := hwl.2 (k : Int)
                rw [← hx] at hw
                obtain ⟨E, hE⟩ : ∃ E, E = Lib.decDigits x := ⟨_, rfl⟩
                have hEl : E.length ≤ 64 := by rw [hE]; exact decD_len (by omega)
                have hwt := hA.waits (by have := HI.out.wait.1; omega) (k : Int)
                rw [queueWaits_at HI.out.sim, hw.1] at hwt
                have hbx := hA.qbox
                unfold ptrV at hwt hbx
                have HWT := Lib.hid hwt
                have HNX := Lib.hid (fun W => (by rw [hE]; exact refNumber_any x W (by omega) : Calls Tryz.prog 12 #[.int .i64 (x : Int)] W fun e w' => e = .returned (.string (txt E)) ∧ Below W.heap.size W w'))
                have HX := Lib.hid (show waitL H.turns (k + 1) = waitL H.turns k ++ (32 :: E) from by rw [hE, hx]; rfl)
                obtain ⟨Z0, hZ0⟩ : ∃ z, z = txt M := ⟨_, rfl⟩
                obtain ⟨Z1, hZ1⟩ : ∃ z, z = txt E := ⟨_, rfl⟩
                obtain ⟨Z2, hZ2⟩ : ∃ z, z = txt (32 :: E) := ⟨_, rfl⟩
                obtain ⟨Z3, hZ3⟩ : ∃ z, z = txt (M ++ (32 :: E)) := ⟨_, rfl⟩
                have ha1 : ({ data := #[32] } : ByteArray) ++ Z1 = Z2 := by rw [hZ1, hZ2, show ({ data := #[32] } : ByteArray) = txt [32] from rfl, txt_add]; rfl
                have ha2 : Z0 ++ Z2 = Z3 := by rw [hZ0, hZ2, hZ3, txt_add]
                have hs0 : Z0.size ≤ 1000000 := by rw [hZ0, txt_size]; omega
                have hs1 : Z1.size ≤ 1000000 := by rw [hZ1, txt_size]; omega
                have hs2 : Z2.size ≤ 1000000 := by rw [hZ2, txt_size, List.length_cons]; omega
                rw [← hZ1] at HNX
                rw [← hZ0]
                have HZ3 := Lib.hid hZ3
                have t1 : decide ((k : Int) < (N : Int)) = true := decide_eq_true (by omega)
                clear hwl hx hw hE hEl hwt hZ0 hZ1 hZ2 hZ3 hA hadd
                go_wp2_with fail
                with_reducible refine HWT.out.mono ?_
                rintro e W8 ⟨rfl, hb8⟩
                have HA8 := Lib.hid (HA2.out.below hb8)
                clear hb8 hbx
                go_wp2_with fail
                with_reducible refine (HNX.out _).mono ?_
                rintro e W9 ⟨rfl, hb9⟩
                have HA9 := Lib.hid (HA8.out.below hb9)
                clear hb9
                go_wp2_with fail
                exact ⟨⟨k + 1, M ++ (32 :: E), by rw [HZ3.out], by go_num, by omega, ⟨by rw [HM.out.1, HX.out]; simp [List.append_assoc], HA9.out⟩⟩, by simp [intOf]; omega⟩
              · have hkN2 : k = N := by omega
                have t1 : decide ((k : Int) < (N : Int)) = false := decide_eq_false (by omega)
                have hH1 : H1.log = M ++ [10] := by rw [HH1.out.2, HM.out.1, hkN2]
                obtain ⟨Z0, hZ0⟩ : ∃ z, z = txt M := ⟨_, rfl⟩
                obtain ⟨Z3, hZ3⟩ : ∃ z, z = txt (M ++ [10]) := ⟨_, rfl⟩
                have ha2 : Z0 ++ ({ data := #[10] } : ByteArray) = Z3 := by rw [hZ0, hZ3, show ({ data := #[10] } : ByteArray) = txt [10] from rfl, txt_add]
                have hs0 : Z0.size ≤ 1000000 := by rw [hZ0, txt_size]; omega
                rw [← hZ0]
                have HZ3 := Lib.hid (And.intro hZ3 hH1)
                clear hwl hkN2 hH1 hZ0 hZ3 hA hadd
                go_wp2_with fail
                exact ⟨⟨j + 1, c1, M ++ [10], by go_num, rfl, by rw [HZ3.out.1], by omega, by omega, by rw [List.length_append]; simp; omega, ⟨H1, q, C, HZ3.out.2, HTI.out, HA2.out⟩⟩, by simp [intOf]; omega⟩
      · have HLG := Lib.hid (show Calls Tryz.prog 14 #[.pointer (some ⟨bh, 0, none⟩)] wr fun e w' => e = .returned (.string (txt L)) ∧ Below w.heap.size w w' from by have := HA.out.log; rw [HHL.out] at this; exact this)
        obtain ⟨S, hS⟩ : ∃ S, S = txt L := ⟨_, rfl⟩
        rw [← hS] at HLG ⊢
        clear hS
        by_cases hjp' : j < p
        · have i1 : (j : Int) < (p : Int) := by omega
          have i2 : ¬ (j : Int) < 60 := by omega
          have t2 : decide ((j : Int) < 60) = false := decide_eq_false i2
          have i3 : ¬ j < 60 := by omega
          go_wp2_with fail
          with_reducible refine HLG.out.mono ?_
          rintro e w5 ⟨rfl, hb5⟩
          have HB5 := Lib.hid hb5
          clear hb5
          go_wp2_with fail
          go_ret
          exact ⟨by simp, HB5.out⟩
        · have i1 : ¬ (j : Int) < (p : Int) := by omega
          have t1 : decide ((j : Int) < (p : Int)) = false := decide_eq_false i1
          go_wp2_with fail
          with_reducible refine HLG.out.mono ?_
          rintro e w5 ⟨rfl, hb5⟩
          have HB5 := Lib.hid hb5
          clear hb5
          go_wp2_with fail
          go_ret
          exact ⟨by simp, HB5.out⟩
theorem tab_of {W : World} {x y : String × DataW Unit} {r : List (String × DataW Unit)} (h : laidMet Tryz.prog (x :: y :: ("internal/strconv.uint64pow10", Lib.tabData .u64 Lib.pow10Tab) :: r) W) : Tab W.heap.size W :=
  Lib.tabBelow_of_tabIs (Lib.tabIs_of_head (g := 0) (t := 217) (by kernel_rfl) (by kernel_rfl) Tryz.underlying217 Tryz.underlying167 (by kernel_rfl) (by kernel_rfl) (laidMet.tail (laidMet.tail h)))
section
open Go.ChangeShapes Go.WideShapes Go.ChangeAt
noncomputable def laidWorld_houseLogs (os : Os) : World := { World.holding Tryz.prog os ⟨#[], #[], []⟩ with heap := (pushErr 6 296 298 [105, 110, 118, 97, 108, 105, 100, 32, 115, 121, 110, 116, 97, 120] (pushErr 7 296 298 [118, 97, 108, 117, 101, 32, 111, 117, 116, 32, 111, 102, 32, 114, 97, 110, 103, 101] ((((((World.holding Tryz.prog os ⟨#[], #[], []⟩).heap).modify 4 (laidIn (tabV Rows.laid_math_bits_deBruijn32tab))).modify 5 (laidIn (tabV Rows.laid_math_bits_deBruijn64tab))).modify 0 (laidIn (tabV Rows.laid_internal_strconv_uint64pow10))).modify 3 (laidIn (tabV Rows.laid_unicode_utf8_acceptRanges))))).modify 2 (laidIn (tabV Rows.laid_unicode_utf8_first)) }
set_option maxRecDepth 100000 in
theorem laidMet_houseLogs (os : Os) : laidMet Tryz.prog Rows.houseLogsRow.laid ((laidWorld_houseLogs os).forCall (fun _ _ => 0) ⟨#[], #[.int .i64 0, .slice none 0 0], []⟩).memory := laidMet_of_run' 8 (by kernel_rfl) (by kernel_rfl)
set_option maxRecDepth 100000 in
theorem reads_houseLogs (os : Os) {H : Type} (enc : TypeId × Value → H) : ∃ places, DataW.whole enc Tryz.prog ((laidWorld_houseLogs os).forCall (fun _ _ => 0) ⟨#[], #[.int .i64 0, .slice none 0 0], []⟩).memory Tryz.f3.params.toList Rows.houseLogsSpec.vars false #[.int .i64 0, .slice none 0 0].toList 8 = some ([.lit (.int .i64 0), .nil], [], places) := ⟨[], by kernel_rfl⟩
set_option maxRecDepth 100000 in
theorem lifted_houseLogs (os : Os) (started : os.Started) (H : Type) (enc : TypeId × Value → H) (F : Stop.Interp) (walk : ∀ (W : World) (v0 : Value) (v1 : Value), laidMetH Tryz.prog Rows.houseLogsRow.laid W → Is_int W v0 → Is_deeds W v1 → Calls Tryz.prog 3 #[v0, v1] W fun e w' => e = .returned (.bool true) ∧ Below W.heap.size W w') :
    ReturnsInHanded {} Tryz.checked os 3 .any ((OpenSpec.ofChange Rows.houseLogsSpec).preRow enc Tryz.prog Tryz.f3 Rows.houseLogsRow.domain false Rows.houseLogsRow.laid) (((OpenSpec.ofChange Rows.houseLogsSpec).at F).post enc Tryz.prog Tryz.f3 false true false false) := by
  obtain ⟨places, hx⟩ := reads_houseLogs os enc
  refine returnsInHanded_of_row (C := Tryz.checked) (s := (OpenSpec.ofChange Rows.houseLogsSpec)) own started (by kernel_rfl) Tryz.func3
    (witness_row_at (enc := enc) (C := Tryz.checked) false (laidWorld_houseLogs os) #[.int .i64 0, .slice none 0 0] rfl (by kernel_rfl) (by kernel_rfl) (by kernel_rfl)
      (OpenSpec.preRow_of_cond 8 hx (by kernel_rfl) (fun k hk => by cases hk) (by kernel_rfl) (laidMet_houseLogs os))) ?_
  intro W base args ds gs before hval0 hW hcnd hk hsz0 hL _ _
  have hval : ∀ (j : Nat) t v, Tryz.f3.params[j]? = some t → args[j]? = some v → Value.okWide Tryz.prog W .any base t v := hval0
  have hW' := hW
  obtain ⟨p, q, hA0, hV, rfl, hfz, hnd⟩ := hW
  have hA : DataW.TrodAll enc Tryz.prog W 0 (fun _ => true) true Tryz.f3.params.toList args.toList ds p := hA0
  rw [Tryz.params3] at hA hval
  obtain ⟨rfl, rfl⟩ := trodVars_none hV
  have hB := hA
  obtain ⟨v0, vs0, d0, ds0, p0, q0, hargs, rfl, rfl, h0, r0⟩ := trodAll_cons hA
  obtain ⟨v1, vs1, d1, ds1, p1, q1, rfl, rfl, rfl, h1, r1⟩ := trodAll_cons r0
  obtain ⟨rfl, rfl, rfl⟩ := trodAll_nil r1
  obtain rfl : args = #[v0, v1] := by cases args; simp_all
  have hsz : (DataW.weightsEach Tryz.prog [3, 22] [d0, d1]).all (· ≤ reachBytes) = true := hsz0
  have i0 := open_int (hval 0 3 v0 rfl rfl) h0 (weights_le hsz 0 rfl rfl)
  have i1 := open_deeds (hval 1 22 v1 rfl rfl) h1 (weights_le hsz 1 rfl rfl)
  refine (walk W v0 v1 hL i0 i1).mono fun e W' ⟨he, bel⟩ => ?_
  subst he
  exact ⟨_, rfl, _, _, _, [], _, [], hW', trodAll_mk1 (shut_bool Tryz.underlying4 _), trodAll_below laidOut (by kernel_rfl) hB bel, rfl, bel.frame _, fun h => by cases h⟩
theorem said_houseLogs (walk : ∀ (W : World) (v0 : Value) (v1 : Value), laidMetH Tryz.prog Rows.houseLogsRow.laid W → Is_int W v0 → Is_deeds W v1 → Calls Tryz.prog 3 #[v0, v1] W fun e w' => e = .returned (.bool true) ∧ Below W.heap.size W w') : Rows.houseLogsRow.holds Tryz.pinned (OpenSpec.ofChange Rows.houseLogsSpec) :=
  OpenClaim.holds_of_cond 3 Tryz.f3 rfl rfl rfl rfl rfl rfl rfl ⟨rfl, rfl, rfl, rfl, rfl⟩ rfl rfl rfl rfl rfl (by kernel_rfl) Tryz.func3 (by kernel_rfl)
    (of_decide_eq_true (by kernel_rfl)) (by unfold Func.isWrapper; first | (rw [if_pos (by decide +kernel)]; kernel_rfl) | (rw [if_neg (by decide +kernel)]; exact ⟨rfl, rfl⟩))
    (fun os started H enc _ F => by rw [OpenClaim.pre_eq_preRow]; exact lifted_houseLogs os started H enc F walk)
theorem plain_houseLogs (f : FuncId) (fn : Func) (hf : Tryz.pinned.checked.prog.funcNamed "lifelodge/lifelodgelaw.HouseLogs" = some f) (hfn : Tryz.pinned.checked.prog.funcs[f]? = some fn) :
    true = Tryz.pinned.checked.prog.looks [] ∧ ∀ (j : Nat) t, fn.params[j]? = some t → Tryz.pinned.checked.prog.wantsStandIn t = false := by
  obtain rfl : f = 3 := Option.some.inj ((show Tryz.prog.funcNamed "lifelodge/lifelodgelaw.HouseLogs" = some 3 by kernel_rfl).symm.trans hf) |>.symm
  obtain rfl : fn = Tryz.f3 := (Option.some.inj (Tryz.func3.symm.trans hfn)).symm
  refine ⟨by kernel_rfl, fun j t ht => ?_⟩
  rw [Tryz.params3] at ht
  have hall : ∀ t ∈ [3, 22], Tryz.prog.wantsStandIn t = false := by
    intro t ht
    simp only [List.mem_cons, List.not_mem_nil, or_false] at ht
    rcases ht with rfl | rfl <;> kernel_rfl
  exact hall t (by simpa using Array.mem_of_getElem? ht)
theorem over_houseLogs (walk : ∀ (W : World) (v0 : Value) (v1 : Value), laidMetH Tryz.prog Rows.houseLogsRow.laid W → Is_int W v0 → Is_deeds W v1 → Calls Tryz.prog 3 #[v0, v1] W fun e w' => e = .returned (.bool true) ∧ Below W.heap.size W w') : Rows.HouseLogsCardSaid :=
  Claim7.holds_tied_plain_at .later [] _ _ _ _ (said_houseLogs walk) (fun _ h => by cases h) (by kernel_rfl) (fun _ h => by cases h) houseLogs_row_tie rfl ⟨rfl, rfl⟩ (by kernel_rfl) rfl plain_houseLogs (by kernel_rfl)
end
theorem houseLogs_proved : Rows.HouseLogsCardSaid := over_houseLogs fun W _ _ hl ⟨n, e0, _⟩ ⟨ks, ⟨a, cap, e1, hs⟩, _⟩ => by
  subst e0; subst e1
  exact law_houseLogs n ks a cap W hs (tab_of hl)
end Go.Proofs.YtabhpbkkjijfjaaGreatDoor
